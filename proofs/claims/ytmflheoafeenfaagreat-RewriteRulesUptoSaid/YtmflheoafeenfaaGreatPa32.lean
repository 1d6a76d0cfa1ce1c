/- Parts of the proof, joined by program: RwT3, RwT4, RwT5. -/
import Derived.Test.YtmflheoafeenfaaGreatPa25
import Derived.Test.YtmflheoafeenfaaGreatPa24
set_option linter.unusedSimpArgs false
set_option linter.unusedVariables false
namespace Go.Proofs.YtmflheoafeenfaaGreat
open Go.Am
set_option maxRecDepth 4000
set_option maxHeartbeats 8000000
variable {E : Env} {L : Hp}
theorem three_of {l : List Int} (h : l.length = 3) : ∃ a b c, l = [a, b, c] := by
  match l, h with
  | [a, b, c], _ => exact ⟨a, b, c, rfl⟩
theorem rsame_ok (hF : E.fns = fnsT) (hm : E.mode f_phasorref18_same = .iso false) (hmw : E.mode f_phasorref18_within = .iso false) (hstw : still E c_phasorref18_within_r6 = true) (hml : E.mode f_phasorref18_list = .iso false) (hstl : still E c_phasorref18_list_r3 = true) (h12 : still E c_phasorref18_same_r12 = true) (h14 : still E c_phasorref18_same_r14 = true)
    {k : Int} {va vb x y z : AVal} {a b : List Int} (hw : ViewsO L [x, y, z] [aint k, va, vb]) (ha : SlI va a) (hb : SlI vb b) (hla : a.length < 2 ^ 62) (h18 : k = 18 → a.length = 3) (h20 : k = 20 → a.length = 3) (hlb : b.length < 2 ^ 62) : CallO E f_phasorref18_same [x, y, z] L fun r L' => r = abool (sameQ k a b) ∧ L' = L := by
  refine ab_ex (callO_iso0 (R := fun r => ∃ x, r = abool x ∧ x = sameQ k a b) hm (fns_of hF n_phasorref18_same) hw ?_)
  have ha0 := ha
  have hb0 := hb
  have ha1 := RowA.isOne ha
  have hb1 := RowA.isOne hb
  have wi := fun (M : Hp) => rwithin_ok (L := M) hF hmw hstw (vs_bare (bare_SlI ha0) (vs_bare (bare_SlI hb0) vs_nil)) ha0 hb0 hla hlb
  by_cases hl : a.length = b.length
  · by_cases hs : symG k = true
    · have e : sameQ k a b = withinB a b := by unfold sameQ; rw [if_neg (by simp [hl]), if_pos hs]
      rw [e]
      have hk : k = 13 ∨ k = 14 ∨ k = 15 ∨ k = 16 ∨ k = 17 ∨ k = 19 := by
        simpa [symG, or_assoc] using hs
      rcases hk with rfl | rfl | rfl | rfl | rfl | rfl
      all_goals
        refine bodyO_of (Nat.le_of_ble_eq_true rfl) ?_; generalize ht : argSlots _ 0 .nil = t; have h0 : t.get 0 = some _ := (by rw [← ht]; rfl); have h1 : t.get 1 = some _ := (by rw [← ht]; rfl); have h2 : t.get 2 = some _ := (by rw [← ht]; rfl); clear ht
        repeat (first | intro id | refine goq ?_)
        refine gok ?_
        refine (wi _).mono ?_
        rintro r L' ⟨rfl, rfl⟩
        repeat (first | intro id | refine goq ?_)
        ((first | apply retO_r | apply retO_n); (focus (exact resq)))
        exact ⟨rfl, _, rfl, rfl⟩
    · have hk : ¬ (k = 13 ∨ k = 14 ∨ k = 15 ∨ k = 16 ∨ k = 17 ∨ k = 19) := by
        simpa [symG, or_assoc] using hs
      by_cases e18 : k = 18
      · have e : sameQ k a b = (decide (a.getD 2 0 = b.getD 2 0) && withinB (a.take 2) (b.take 2)) := by unfold sameQ; rw [if_neg (by simp [hl]), if_neg hs, if_pos e18]
        rw [e]
        have hal := h18 e18
        subst e18
        have wj := fun (M : Hp) => rwithin_ok (L := M) hF hmw hstw (vs_bare (bare_SlI (hiI_is (k := 2) ha0 (by omega))) (vs_bare (bare_SlI (hiI_is (k := 2) hb0 (by omega))) vs_nil)) (hiI_is (k := 2) ha0 (by omega)) (hiI_is (k := 2) hb0 (by omega)) (by simp; omega) (by simp; omega)
        by_cases hq2 : a.getD 2 0 = b.getD 2 0
        · rw [decide_eq_true hq2, Bool.true_and]
          refine bodyO_of (Nat.le_of_ble_eq_true rfl) ?_; generalize ht : argSlots _ 0 .nil = t; have h0 : t.get 0 = some _ := (by rw [← ht]; rfl); have h1 : t.get 1 = some _ := (by rw [← ht]; rfl); have h2 : t.get 2 = some _ := (by rw [← ht]; rfl); clear ht
          repeat (first | intro id | refine goq ?_)
          refine gok ?_
          refine (wj _).mono ?_
          rintro r L' ⟨rfl, rfl⟩
          repeat (first | intro id | refine goq ?_)
          ((first | apply retO_r | apply retO_n); (focus (exact resq)))
          exact ⟨rfl, _, rfl, rfl⟩
        · rw [decide_eq_false hq2, Bool.false_and]
          refine bodyO_of (Nat.le_of_ble_eq_true rfl) ?_; generalize ht : argSlots _ 0 .nil = t; have h0 : t.get 0 = some _ := (by rw [← ht]; rfl); have h1 : t.get 1 = some _ := (by rw [← ht]; rfl); have h2 : t.get 2 = some _ := (by rw [← ht]; rfl); clear ht
          repeat (first | intro id | refine goq ?_)
          ((first | apply retO_r | apply retO_n); (focus (exact resq)))
          exact ⟨rfl, _, rfl, rfl⟩
      · by_cases e20 : k = 20
        · have e : sameQ k a b = (decide (a.getD 0 0 = b.getD 0 0) && withinB (a.drop 1) (b.drop 1)) := by unfold sameQ; rw [if_neg (by simp [hl]), if_neg hs, if_neg e18, if_pos e20]
          rw [e]
          have hal := h20 e20
          obtain ⟨a0, a1, a2, rfl⟩ := three_of hal
          obtain ⟨b0, b1, b2, rfl⟩ := three_of (hl.symm.trans hal)
          rcases ha with ⟨rfl, e0, -⟩ | ⟨ca, rfl⟩
          · simp at e0
          rcases hb with ⟨rfl, e0, -⟩ | ⟨cb, rfl⟩
          · simp at e0
          subst e20
          have wj := fun (M : Hp) => rwithin_ok (L := M) (a := [a1, a2]) (b := [b1, b2]) (args := [.rs [aint a1, aint a2] 2 (ca.map (· - 1)), .rs [aint b1, aint b2] 2 (cb.map (· - 1))]) hF hmw hstw (vs_bare rfl (vs_bare rfl vs_nil)) (.inr ⟨_, rfl⟩) (.inr ⟨_, rfl⟩) (by simp) (by simp)
          have ra : RowA (.rs ([a0, a1, a2].map aint) [a0, a1, a2].length ca) ([a0, a1, a2].map aint) [a0, a1, a2].length := .inr ⟨_, rfl⟩
          have rb : RowA (.rs ([b0, b1, b2].map aint) [b0, b1, b2].length cb) ([b0, b1, b2].map aint) [b0, b1, b2].length := .inr ⟨_, rfl⟩
          by_cases hq2 : [a0, a1, a2].getD 0 0 = [b0, b1, b2].getD 0 0
          · rw [decide_eq_true hq2, Bool.true_and]
            refine bodyO_of (Nat.le_of_ble_eq_true rfl) ?_; generalize ht : argSlots _ 0 .nil = t; have h0 : t.get 0 = some _ := (by rw [← ht]; rfl); have h1 : t.get 1 = some _ := (by rw [← ht]; rfl); have h2 : t.get 2 = some _ := (by rw [← ht]; rfl); clear ht
            repeat (first | intro id | refine goq ?_)
            refine oo_p (wanted_some (by exact slotq) rfl) (fun mm hmm => op_sliceLoR (lo := 1) (r := [aint a1, aint a2]) (by exact slotq) rfl (by simp) rfl) ?_
            repeat (first | intro id | refine goq ?_)
            refine oo_p (wanted_some (by exact slotq) rfl) (fun mm hmm => op_sliceLoR (lo := 1) (r := [aint b1, aint b2]) (by exact slotq) rfl (by simp) rfl) ?_
            repeat (first | intro id | refine goq ?_)
            refine gok ?_
            refine (wj _).mono ?_
            rintro r L' ⟨rfl, rfl⟩
            repeat (first | intro id | refine goq ?_)
            ((first | apply retO_r | apply retO_n); (focus (exact resq)))
            exact ⟨rfl, _, rfl, rfl⟩
          · rw [decide_eq_false hq2, Bool.false_and]
            refine bodyO_of (Nat.le_of_ble_eq_true rfl) ?_; generalize ht : argSlots _ 0 .nil = t; have h0 : t.get 0 = some _ := (by rw [← ht]; rfl); have h1 : t.get 1 = some _ := (by rw [← ht]; rfl); have h2 : t.get 2 = some _ := (by rw [← ht]; rfl); clear ht
            repeat (first | intro id | refine goq ?_)
            ((first | apply retO_r | apply retO_n); (focus (exact resq)))
            exact ⟨rfl, _, rfl, rfl⟩
        · have e : sameQ k a b = decide (a = b) := by unfold sameQ; rw [if_neg (by simp [hl]), if_neg hs, if_neg e18, if_neg e20]
          rw [e]
          refine bodyO_of (Nat.le_of_ble_eq_true rfl) ?_; generalize ht : argSlots _ 0 .nil = t; have h0 : t.get 0 = some _ := (by rw [← ht]; rfl); have h1 : t.get 1 = some _ := (by rw [← ht]; rfl); have h2 : t.get 2 = some _ := (by rw [← ht]; rfl); clear ht
          repeat (first | intro id | refine goq ?_)
          refine gok ?_
          refine (rlist_ok hF hml hstl (vs_bare (bare_SlI ha0) (vs_bare (bare_SlI hb0) vs_nil)) ha0 hb0 hl hla).mono ?_
          rintro r L' ⟨rfl, rfl⟩
          repeat (first | intro id | refine goq ?_)
          ((first | apply retO_r | apply retO_n); (focus (exact resq)))
          exact ⟨rfl, _, rfl, rfl⟩
  · have e : sameQ k a b = false := by unfold sameQ; rw [if_pos hl]
    rw [e]
    refine bodyO_of (Nat.le_of_ble_eq_true rfl) ?_; generalize ht : argSlots _ 0 .nil = t; have h0 : t.get 0 = some _ := (by rw [← ht]; rfl); have h1 : t.get 1 = some _ := (by rw [← ht]; rfl); have h2 : t.get 2 = some _ := (by rw [← ht]; rfl); clear ht
    repeat (first | intro id | refine goq ?_)
    ((first | apply retO_r | apply retO_n); (focus (exact resq)))
    exact ⟨rfl, _, rfl, rfl⟩
end Go.Proofs.YtmflheoafeenfaaGreat
namespace Go.Proofs.YtmflheoafeenfaaGreat
open Go.Am
set_option maxRecDepth 4000
set_option maxHeartbeats 8000000
section
variable {E : Env} {L L' : Hp} {t : Tr AVal} {K : Tr AVal → Hp → Prop} {l : List AO} {g : Option (Option Nat × Bool)} {n d : Nat} {x y : Arg} {bytes off k esz j i : Nat} {cap : Option Nat} {cs c nw : List AVal} {v : AVal} {B : Hp}
/-- Part of a box is appended, of whatever length. -/
theorem oo_appendS (hg : wantedA t g = some true) (hx : x.get t = some v) (hb : BufO esz v cs k B) (hy : y.get t = some (.sl i off j esz cap)) (hr : Rem B L L') (hi : In i c L') (hs : seg c off (j * esz) = some nw) (h1 : nw.all AVal.one = true) (hr1 : (k + j) * bytes ≤ 140737488355328) (hr2 : k + j ≤ 140737488355328)
    (h : ∀ a' B', BufO esz a' (cs ++ nw) (k + j) B' → OpsO E l (t.set d (some a')) (B' ++ L') K) : OpsO E (⟨some d, .append esz bytes x y, g, n⟩ :: l) t L K := ⟨fun m hm => by
  have hm' := hm.perm hr.perm
  have hl := (seg_len hs).1
  by_cases h0 : j = 0
  · subst h0
    have hnw : nw = [] := List.length_eq_zero_iff.1 (by omega)
    subst hnw
    have := h v B (by simpa using hb)
    exact ops_s hg (op_append0 hx hy hb.slen rfl) (this.ex _ hm')
  · have hsc : sliceCells m esz j (.sl i off j esz cap) = some nw := by
      simp only [sliceCells, if_true, hm'.right.get hi]
      exact hs
    have hb' : ∀ id, BufO esz (.sl id 0 (k + j) esz none) (cs ++ nw) (k + j) [(id, cs ++ nw)] := fun id => .box (by rw [List.length_append, hb.length, hl, Nat.add_mul]) (by rw [List.all_append, hb.one, h1]; rfl)
    cases hb with
    | nil => exact ops_s hg (op_append hx hy .nil rfl hsc (by omega) hr1 hr2 h1 rfl) ((h _ _ (hb' m.next)).ex _ hm'.new)
    | box hl' h1' => exact ops_s hg (op_append hx hy (.room (hm'.get In.here) (seg_full hl') (by omega)) rfl hsc (by omega) hr1 hr2 h1 h1') ((h _ _ (hb' m.next)).ex _ (Ows.new (Ows.drop hm')))⟩
end
variable {L : Hp}
theorem rwithoutR {v : AVal} {l : List OpD} {j : Nat} (hv : OpsA v l) (hj : j < l.length) (hlt : l.length ≤ 1000000) :
    CallO ER f_phasorref18_without [v, aint j] L fun r L' => ∃ cs' B, BufO 6 r cs' (l.length - 1) B ∧ OpsC cs' (l.eraseIdx j) ∧ L' = B ++ L := by
  refine CallO.to (callO_open rfl n_phasorref18_without ?_)
  obtain ⟨cs, hr, hcs, -⟩ := hv
  have hv1 := RowA.isOne hr
  have hlen := hcs.length
  rcases hr with ⟨rfl, h0, h1⟩ | ⟨cap, rfl⟩
  · omega
  have s1 : seg cs 0 (j * 6) = some (cs.take (j * 6)) := by unfold seg; rw [if_pos (by omega)]; simp
  have s2 : seg cs ((j + 1) * 6) ((l.length - (j + 1)) * 6) = some (cs.drop ((j + 1) * 6)) := by
    unfold seg
    rw [if_pos (by omega), List.take_of_length_le (by simp; omega)]
  have r1 : RowA (.rs (cs.take (j * 6)) j cap) (cs.take (j * 6)) j := .inr ⟨_, rfl⟩
  have r2 : RowA (.rs (cs.drop ((j + 1) * 6)) (l.length - (j + 1)) (cap.map (· - (j + 1)))) (cs.drop ((j + 1) * 6)) (l.length - (j + 1)) := .inr ⟨_, rfl⟩
  refine bodyO_of (Nat.le_of_ble_eq_true rfl) ?_; generalize ht : argSlots _ 0 .nil = t; have h0 : t.get 0 = some _ := (by rw [← ht]; rfl); have h1 : t.get 1 = some _ := (by rw [← ht]; rfl); clear ht
  repeat (first | intro id | refine goq ?_)
  refine oo_p wanted_none (fun m hm => op_sliceHiR (by exact slotq) (by exact slotq) (by omega) s1) ?_
  repeat (first | intro id | refine goq ?_)
  refine oo_appendR wanted_none (by exact slotq) .nil (by exact slotq) r1 .nil (by simp; omega) (hcs.take j).one (by omega) (by omega) ?_
  intro a C ha
  have a1 := ha.isOne
  repeat (first | intro id | refine goq ?_)
  refine oo_p wanted_none (fun m hm => op_sliceLoR (lo := j + 1) (by exact slotq) (by exact slotq) (by omega) s2) ?_
  repeat (first | intro id | refine goq ?_)
  refine oo_appendR wanted_none (by exact slotq) ha (by exact slotq) r2 Rem.here (by simp; omega) (hcs.drop (j + 1)).one (by omega) (by omega) ?_
  intro b D hb
  have b1 := hb.isOne
  repeat (first | intro id | refine goq ?_)
  ((first | apply retO_r | apply retO_n); (focus (exact resq)))
  have e : 0 + j + (l.length - (j + 1)) = l.length - 1 := by omega
  rw [e] at hb
  exact ⟨D ++ L, by exact subq, _, D, hb, by simpa using hcs.erase j, rfl⟩
theorem rwithoutB {l : List OpD} {j id : Nat} {cap : Option Nat} {cs : List AVal} (hcs : OpsC cs l) (hi : In id cs L) (hj : j < l.length) (hlt : l.length ≤ 1000000) :
    CallO ER f_phasorref18_without [.sl id 0 l.length 6 cap, aint j] L fun r L' => ∃ cs' B, BufO 6 r cs' (l.length - 1) B ∧ OpsC cs' (l.eraseIdx j) ∧ L' = B ++ L := by
  refine CallO.to (callO_open rfl n_phasorref18_without ?_)
  have hlen := hcs.length
  have s1 : seg cs 0 (j * 6) = some (cs.take (j * 6)) := by unfold seg; rw [if_pos (by omega)]; simp
  have s2 : seg cs (0 + (j + 1) * 6) ((l.length - (j + 1)) * 6) = some (cs.drop ((j + 1) * 6)) := by
    unfold seg
    rw [if_pos (by omega), Nat.zero_add, List.take_of_length_le (by simp; omega)]
  refine bodyO_of (Nat.le_of_ble_eq_true rfl) ?_; generalize ht : argSlots _ 0 .nil = t; have h0 : t.get 0 = some _ := (by rw [← ht]; rfl); have h1 : t.get 1 = some _ := (by rw [← ht]; rfl); clear ht
  repeat (first | intro id | refine goq ?_)
  refine oo_appendS wanted_none (by exact slotq) .nil (by exact slotq) .nil hi s1 (hcs.take j).one (by omega) (by omega) ?_
  intro a C ha
  have a1 := ha.isOne
  repeat (first | intro id | refine goq ?_)
  refine oo_appendS wanted_none (by exact slotq) ha (by exact slotq) Rem.here hi s2 (hcs.drop (j + 1)).one (by omega) (by omega) ?_
  intro b D hb
  have b1 := hb.isOne
  repeat (first | intro id | refine goq ?_)
  ((first | apply retO_r | apply retO_n); (focus (exact resq)))
  have e : 0 + j + (l.length - (j + 1)) = l.length - 1 := by omega
  rw [e] at hb
  exact ⟨D ++ L, by exact subq, _, D, hb, by simpa using hcs.erase j, rfl⟩
end Go.Proofs.YtmflheoafeenfaaGreat
namespace Go.Proofs.YtmflheoafeenfaaGreat
open Go.Am
set_option maxRecDepth 4000
set_option maxHeartbeats 16000000
/-- What is asked of the document's Compose. -/
def RCompOk : Prop := ∀ (a b : Int) (M : Hp), arity a ≠ 0 → arity b ≠ 0 → CallO ER f_phasorref06_Compose [aint a, aint b] M fun r L' => r = .tup [aint (compG a b), abool (decide (compG a b ≠ 0))] ∧ L' = M
theorem ok_plain' {o : OpD} {n b : Int} (h : OpOk o n b) (hp : plainB o = true) : (o.qs.length : Int) = arity o.gate ∧ 0 < o.qs.length ∧ arity o.gate ≠ 0 ∧ Qs n o.qs := by
  simp only [plainB, Bool.and_eq_true, decide_eq_true_eq] at hp
  rcases h with ⟨h1, h2, h3, h4, -⟩ | h | h | h
  · refine ⟨h3, ?_, h2, h4⟩
    have : 0 ≤ arity o.gate := by unfold arity; (repeat' split) <;> omega
    omega
  · omega
  · omega
  · omega
theorem arity_inv' (k : Int) : arity (inverse k) = arity k := by
  unfold arity inverse
  by_cases h0 : k < 1 ∨ 20 < k
  · rw [if_pos h0, if_pos h0]
    simp
  · rw [if_neg h0, if_neg h0]
    by_cases h1 : k = 5 ∨ k = 7 ∨ k = 9 ∨ k = 15
    · rw [if_pos h1]
      rcases h1 with rfl | rfl | rfl | rfl <;> decide
    · rw [if_neg h1]
      by_cases h2 : k = 6 ∨ k = 8 ∨ k = 10 ∨ k = 16
      · rw [if_pos h2]
        rcases h2 with rfl | rfl | rfl | rfl <;> decide
      · rw [if_neg h2, if_neg h0]
theorem OpsC.setGate {cs : List AVal} {l : List OpD} (h : OpsC cs l) (k : Int) : ∀ {i : Nat}, i < l.length → OpsC (cs.set (i * 6 + 1) (aint k)) (l.set i { gO l i with gate := k }) := by
  induction h with
  | nil => intro i hi; simp at hi
  | @cons q o cs os hq hb h ih =>
    intro i hi
    cases i with
    | zero => exact OpsC.cons (o := { o with gate := k }) hq hb h
    | succ i =>
      have h1 := ih (i := i) (by simpa using hi)
      have e : (opCells q o ++ cs).set ((i + 1) * 6 + 1) (aint k) = opCells q o ++ cs.set (i * 6 + 1) (aint k) := by
        rw [List.set_append_right _ _ (by simp [opCells]; omega)]
        congr 2
        simp [opCells]
        omega
      rw [e]
      have e2 : gO (o :: os) (i + 1) = gO os i := by simp [gO]
      rw [e2, List.set_cons_succ]
      exact .cons hq hb h1
theorem Sub.hd {B L : Hp} : Am.Sub B (B ++ L) := ⟨L, List.Perm.refl _⟩
def UseQ (e : Option (List OpD)) (t : Tr AVal) (ex : Ex) (t' : Tr AVal) (L' : Hp) : Prop :=
  match e with
  | none => ex = .exit 0 ∧ Keep [0] t t'
  | some l' => ex = .ret ∧ ∃ a cs B, t'.get 6 = some a ∧ t'.get 7 = some (abool true) ∧ BufO 6 a cs l'.length B ∧ OpsC cs l' ∧ Am.Sub B L'
theorem ruse_l0 (hcomp : RCompOk) (h10 : still ER c_phasorref18_use_r10 = true) (hsp : still ER c_phasorref18_partner_r3 = true) (hsw : still ER c_phasorref18_within_r6 = true) (hsl : still ER c_phasorref18_list_r3 = true) (hs12 : still ER c_phasorref18_same_r12 = true) (hs14 : still ER c_phasorref18_same_r14 = true)
    {cn mg : Bool} {n b : Int} {l : List OpD} {v : AVal} (hv : OpsA v l) (hl : l.length ≤ 1000000) (hok : OkL n b l) :
    ∀ (d j : Nat) (t : Tr AVal) (L : Hp), d + j = l.length → t.get 0 = some v → t.get 1 = some (abool cn) → t.get 2 = some (abool mg) → t.get 8 = some (aint j) →
    WpO ER (.loop c_phasorref18_use_l0) t L (UseQ (useFrom cn mg l d j) t) := by
  have hv0 := hv
  obtain ⟨cs, hr, hcs, hlt⟩ := hv
  have hv1 := RowA.isOne hr
  intro d
  induction d with
  | zero =>
    intro j t L hd h0 h1 h2 h8
    obtain rfl : j = l.length := by omega
    refine wo_loop ?_
    repeat (first | intro id | refine goq ?_)
    exact ⟨rfl, by exact keepq⟩
  | succ d ih =>
    intro j t L hd h0 h1 h2 h8
    have hj : j < l.length := by omega
    have next : ∀ (t1 : Tr AVal) (L1 : Hp), useAt cn mg l j = none → Keep [0] t t1 → t1.get 1 = some (abool cn) → t1.get 2 = some (abool mg) → t1.get 8 = some (aint ((j + 1 : Nat) : Int)) →
        WpO ER (.loop c_phasorref18_use_l0) t1 L1 (UseQ (useFrom cn mg l (d + 1) j) t) := by
      intro t1 L1 hn hK g1 g2 g8
      have e : useFrom cn mg l (d + 1) j = useFrom cn mg l d (j + 1) := by
        show (match useAt cn mg l j with | some l' => some l' | none => useFrom cn mg l d (j + 1)) = _
        rw [hn]
      rw [e]
      refine WpO.mono (ih (j + 1) t1 L1 (by omega) ((hK.ex 0 rfl).trans h0) g1 g2 g8) ?_
      intro ex t' L' h
      unfold UseQ at h ⊢
      split at h
      · exact ⟨h.1, hK.trans h.2⟩
      · exact h
    have done : ∀ l', useAt cn mg l j = some l' → useFrom cn mg l (d + 1) j = some l' := by
      intro l' h
      show (match useAt cn mg l j with | some l' => some l' | none => useFrom cn mg l d (j + 1)) = _
      rw [h]
    obtain ⟨q, hq, hqb, hlt6, hseg⟩ := hcs.getE hj
    have okj := hok _ (gO_mem hj)
    have hgo : l.getD j default = gO l j := rfl
    rw [hgo] at hq hqb hseg
    have hq1 := RowA.isOne hq
    have pl := fun (M : Hp) => rplain_ok (L := M) (E := ER) rfl rfl hq (vs_bare (bare_opV hq) vs_nil)
    have pt := fun (M : Hp) => rpartner_ok (L := M) (E := ER) rfl rfl rfl rfl rfl hsp (vs_bare hv0.bare (vs_bare rfl vs_nil)) hv0 hj
    have w1 := fun (M : Hp) => rwithoutR (L := M) hv0 hj hl
    have hpi := partI_lt l j
    unfold opV opCells at pl
    unfold opCells at hseg
    refine wo_loop ?_
    repeat (first | intro id | refine goq ?_)
    refine gok ?_
    refine (pl _).mono ?_
    rintro r L' ⟨rfl, rfl⟩
    cases hp : plainB (gO l j) with
    | false =>
      have hu : useAt cn mg l j = none := by unfold useAt; rw [if_pos hp]
      repeat (first | intro id | refine goq ?_)
      refine next _ _ hu ?_ ?_ ?_ ?_
      · exact keepq
      · exact slotq
      · exact slotq
      · exact slotq
    | true =>
      by_cases hg : cn = true ∧ (gO l j).gate = 1
      · have hu : useAt cn mg l j = some (l.eraseIdx j) := by unfold useAt; rw [if_neg (by rw [hp]; simp), if_pos hg]
        obtain ⟨rfl, hg1⟩ := hg
        repeat (first | intro id | refine goq ?_)
        refine gok ?_
        refine (w1 _).mono ?_
        rintro r L' ⟨cs', B', hb, hc', rfl⟩
        have hb1 := hb.isOne
        repeat (first | intro id | refine goq ?_)
        rw [done _ hu]
        exact ⟨rfl, r, cs', B', by exact slotq, by exact slotq, by rw [List.length_eraseIdx, if_pos hj]; exact hb, hc', Sub.hd⟩
      · have hua : useAt cn mg l j = (if partI l j < 0 ∨ plainB (gO l (partI l j).toNat) = false then none
            else if cn = true ∧ undoB (gO l (partI l j).toNat) (gO l j) = true then some ((l.eraseIdx j).eraseIdx (partI l j).toNat)
            else if mg = true ∧ compG (gO l (partI l j).toNat).gate (gO l j).gate ≠ 0 ∧ (gO l (partI l j).toNat).qs = (gO l j).qs then some ((l.eraseIdx j).set (partI l j).toNat { gO l (partI l j).toNat with gate := compG (gO l (partI l j).toNat).gate (gO l j).gate })
            else none) := by
          unfold useAt
          rw [if_neg (by rw [hp]; simp), if_neg hg]
        have rest : ∀ (t1 : Tr AVal) (L1 : Hp) (i9 : Nat), Keep [0] t t1 → t1.get 1 = some (abool cn) → t1.get 2 = some (abool mg) → t1.get 8 = some (aint j) → t1.get 9 = some (.ptr i9 0) → In i9 [aint (gO l j).kind, aint (gO l j).gate, q, aint (gO l j).bit, aint (gO l j).ifc, aint (gO l j).whn] L1 →
            WpO ER (.seq (.reg c_phasorref18_use_r7 false) (.seq (.seq (.reg c_phasorref18_use_r8 false) (.cond (.t 49) (.exit 1) (.skip))) (.seq (.reg c_phasorref18_use_r9 false) (.seq (.seq (.reg c_phasorref18_use_r10 true) (.cond (.t 71) (.seq (.reg c_phasorref18_use_r11 false) (.ret)) (.skip))) (.seq (.reg c_phasorref18_use_r12 false) (.seq (.reg c_phasorref18_use_r13 false) (.cond (.t 95) (.seq (.reg c_phasorref18_use_r14 false) (.seq (.reg c_phasorref18_use_r15 false) (.seq (.reg c_phasorref18_use_r16 false) (.ret)))) (.skip)))))))) t1 L1 (blkO 1 (seqO ER (.reg c_phasorref18_use_r17 false) (seqO ER (.loop c_phasorref18_use_l0) (UseQ (useFrom cn mg l (d + 1) j) t)))) := by
          intro t1 L1 i9 hK g1 g2 g8 g9 hi9
          have g0 := (hK.ex 0 rfl).trans h0
          by_cases hneg : partI l j < 0
          · rw [if_pos (.inl hneg)] at hua
            repeat (first | intro id | refine goq ?_)
            refine gok ?_
            refine (pt _).mono ?_
            rintro r L' ⟨rfl, rfl⟩
            repeat (first | intro id | refine goq ?_)
            refine next _ _ hua ?_ ?_ ?_ ?_
            · exact hK.trans (by exact keepq)
            · exact slotq
            · exact slotq
            · exact slotq
          · obtain ⟨i, hi⟩ : ∃ i : Nat, partI l j = (i : Int) := ⟨(partI l j).toNat, by omega⟩
            have hiT : i < l.length := by omega
            rw [hi] at hua pt
            rw [Int.toNat_natCast] at hua
            obtain ⟨q2, hq2, hqb2, hlt62, hseg2⟩ := hcs.getE hiT
            have oki := hok _ (gO_mem hiT)
            have hgo2 : l.getD i default = gO l i := rfl
            rw [hgo2] at hq2 hqb2 hseg2
            have hq21 := RowA.isOne hq2
            have pl2 := fun (M : Hp) => rplain_ok (L := M) (E := ER) rfl rfl hq2 (vs_bare (bare_opV hq2) vs_nil)
            unfold opV opCells at pl2
            unfold opCells at hseg2
            repeat (first | intro id | refine goq ?_)
            refine gok ?_
            refine (pt _).mono ?_
            rintro r L' ⟨rfl, rfl⟩
            repeat (first | intro id | refine goq ?_)
            refine gok ?_
            refine (pl2 _).mono ?_
            rintro r L' ⟨rfl, rfl⟩
            cases hp2 : plainB (gO l i) with
            | false =>
              rw [if_pos (.inr hp2)] at hua
              repeat (first | intro id | refine goq ?_)
              refine next _ _ hua ?_ ?_ ?_ ?_
              · exact hK.trans (by exact keepq)
              · exact slotq
              · exact slotq
              · exact slotq
            | true =>
              rw [if_neg (by rw [hp2]; simp)] at hua
              obtain ⟨ai1, ai2, ai3, ai4⟩ := ok_plain' oki hp2
              obtain ⟨aj1, aj2, aj3, aj4⟩ := ok_plain' okj hp
              have hij : i < j := by omega
              have tail : ∀ (t2 : Tr AVal) (L2 : Hp) (i11 : Nat), ¬(cn = true ∧ undoB (gO l i) (gO l j) = true) → Keep [0] t t2 → t2.get 1 = some (abool cn) → t2.get 2 = some (abool mg) → t2.get 8 = some (aint j) → t2.get 9 = some (.ptr i9 0) → t2.get 10 = some (aint i) → t2.get 11 = some (.ptr i11 0) → In i9 [aint (gO l j).kind, aint (gO l j).gate, q, aint (gO l j).bit, aint (gO l j).ifc, aint (gO l j).whn] L2 → In i11 [aint (gO l i).kind, aint (gO l i).gate, q2, aint (gO l i).bit, aint (gO l i).ifc, aint (gO l i).whn] L2 →
                  WpO ER (.seq (.reg c_phasorref18_use_r12 false) (.seq (.reg c_phasorref18_use_r13 false) (.cond (.t 95) (.seq (.reg c_phasorref18_use_r14 false) (.seq (.reg c_phasorref18_use_r15 false) (.seq (.reg c_phasorref18_use_r16 false) (.ret)))) (.skip)))) t2 L2 (blkO 1 (seqO ER (.reg c_phasorref18_use_r17 false) (seqO ER (.loop c_phasorref18_use_l0) (UseQ (useFrom cn mg l (d + 1) j) t)))) := by
                intro t2 L2 i11 hnu hK2 m1 m2 m8 m9 m10 m11 hj9 hj11
                have m0 := (hK2.ex 0 rfl).trans h0
                rw [if_neg hnu] at hua
                have cp := fun (M : Hp) => hcomp (gO l i).gate (gO l j).gate M ai3 aj3
                have car := compG_ar (a := (gO l i).gate) (b := (gO l j).gate)
                repeat (first | intro id | refine goq ?_)
                refine gok ?_
                refine (cp _).mono ?_
                rintro r L' ⟨rfl, rfl⟩
                generalize compG (gO l i).gate (gO l j).gate = kk at *
                by_cases hk : kk = 0
                · rw [if_neg (fun h => h.2.1 hk)] at hua
                  rw [decide_eq_false (by simpa using hk)]
                  rcases Bool.eq_false_or_eq_true mg with hmg | hmg
                  all_goals
                    subst hmg
                    repeat (first | intro id | refine goq ?_)
                    refine next _ _ hua ?_ ?_ ?_ ?_
                    · exact hK2.trans (by exact keepq)
                    · exact slotq
                    · exact slotq
                    · exact slotq
                · rw [decide_eq_true hk]
                  obtain ⟨-, c2, c3⟩ := car hk
                  have hle : (gO l i).qs.length = (gO l j).qs.length := by omega
                  rcases Bool.eq_false_or_eq_true mg with hmg | hmg
                  · subst hmg
                    repeat (first | intro id | refine goq ?_)
                    refine gok ?_
                    refine (rlist_ok (E := ER) rfl rfl hsl (vs_bare (bare_SlI hq2) (vs_bare (bare_SlI hq) vs_nil)) hq2 hq hle hqb2).mono ?_
                    rintro r L' ⟨rfl, rfl⟩
                    by_cases hqs : (gO l i).qs = (gO l j).qs
                    · rw [if_pos ⟨rfl, hk, hqs⟩] at hua
                      rw [decide_eq_true hqs]
                      repeat (first | intro id | refine goq ?_)
                      refine gok ?_
                      refine (w1 _).mono ?_
                      rintro r L' ⟨cs', B', hb, hc', rfl⟩
                      have hel : (l.eraseIdx j).length = l.length - 1 := by rw [List.length_eraseIdx, if_pos hj]
                      have hcl := hc'.length
                      rcases bufInv hb with ⟨-, -, e0, -⟩ | ⟨iw, rfl, rfl⟩
                      · omega
                      have hge : gO (l.eraseIdx j) i = gO l i := by
                        unfold gO
                        rw [List.getD_eq_getElem?_getD, List.getD_eq_getElem?_getD, List.getElem?_eraseIdx_of_lt hij]
                      have hsg := hc'.setGate kk (i := i) (by omega)
                      rw [hge] at hsg
                      have hlt1 : 0 + i * 6 + 1 < cs'.length := by omega
                      repeat (first | intro id | refine goq ?_)
                      rw [done _ hua]
                      refine ⟨rfl, .sl iw 0 (l.length - 1) 6 none, cs'.set (i * 6 + 1) (aint kk), [(iw, cs'.set (i * 6 + 1) (aint kk))], by exact slotq, by exact slotq, ?_, hsg, ?_⟩
                      · rw [List.length_set, hel]
                        exact .box (by rw [List.length_set, hcl, hel]) hsg.one
                      · exact subq
                    · rw [if_neg (fun h => hqs h.2.2)] at hua
                      rw [decide_eq_false hqs]
                      repeat (first | intro id | refine goq ?_)
                      refine next _ _ hua ?_ ?_ ?_ ?_
                      · exact hK2.trans (by exact keepq)
                      · exact slotq
                      · exact slotq
                      · exact slotq
                  · subst hmg
                    rw [if_neg (by simp)] at hua
                    repeat (first | intro id | refine goq ?_)
                    refine next _ _ hua ?_ ?_ ?_ ?_
                    · exact hK2.trans (by exact keepq)
                    · exact slotq
                    · exact slotq
                    · exact slotq
              have inv := fun (M : Hp) => rInverse_ok (L := M) (E := ER) (k := (gO l j).gate) rfl rfl rfl
              rcases Bool.eq_false_or_eq_true cn with hcn | hcn
              · subst hcn
                repeat (first | intro id | refine goc ?_)
                refine wo_cond_f (by exact slotq) (wo_skip (seqO.n ?_))
                repeat (first | intro id | refine goq ?_)
                refine gok ?_
                refine (inv _).mono ?_
                rintro r L' ⟨rfl, rfl⟩
                by_cases hge : (gO l i).gate = inverse (gO l j).gate
                · have alen : (gO l i).qs.length = (gO l j).qs.length := by
                    rw [hge, arity_inv'] at ai1
                    omega
                  have a18 : (gO l j).gate = 18 → (gO l i).qs.length = 3 := fun e => by rw [e] at aj1; have : arity 18 = 3 := rfl; omega
                  have a20 : (gO l j).gate = 20 → (gO l i).qs.length = 3 := fun e => by rw [e] at aj1; have : arity 20 = 3 := rfl; omega
                  have sm := fun (M : Hp) => rsame_ok (L := M) (E := ER) (k := (gO l j).gate) rfl rfl rfl hsw rfl hsl hs12 hs14 (vs_bare rfl (vs_bare (bare_SlI hq2) (vs_bare (bare_SlI hq) vs_nil))) hq2 hq hqb2 a18 a20 hqb
                  repeat (first | intro id | refine goq ?_)
                  refine gok ?_
                  refine (sm _).mono ?_
                  rintro r L' ⟨rfl, rfl⟩
                  cases hsq : sameQ (gO l j).gate (gO l i).qs (gO l j).qs with
                  | false =>
                    have hnu : ¬(true = true ∧ undoB (gO l i) (gO l j) = true) := by
                      unfold undoB
                      rw [hsq]
                      simp
                    repeat (first | intro id | refine goc ?_)
                    refine wo_cond_f (by exact slotq) (wo_skip (seqO.n ?_))
                    refine tail _ _ id hnu ?_ ?_ ?_ ?_ ?_ ?_ ?_ ?_ .here
                    · exact hK.trans (by exact keepq)
                    · exact slotq
                    · exact slotq
                    · exact slotq
                    · exact slotq
                    · exact slotq
                    · exact slotq
                    · exact .next hi9
                  | true =>
                    have hun : undoB (gO l i) (gO l j) = true := by
                      unfold undoB
                      rw [hsq, decide_eq_true hge]
                      rfl
                    rw [if_pos ⟨rfl, hun⟩] at hua
                    have hel : (l.eraseIdx j).length = l.length - 1 := by rw [List.length_eraseIdx, if_pos hj]
                    repeat (first | intro id | refine goq ?_)
                    refine gok ?_
                    refine (w1 _).mono ?_
                    rintro r L' ⟨cs', B', hb, hc', rfl⟩
                    rcases bufInv hb with ⟨-, -, e0, -⟩ | ⟨iw, rfl, rfl⟩
                    · omega
                    have w2 := fun (M : Hp) => rwithoutB (L := (iw, cs') :: M) (l := l.eraseIdx j) (j := i) (cap := none) hc' .here (by omega) (by omega)
                    rw [hel] at w2
                    repeat (first | intro id | refine goq ?_)
                    refine gok ?_
                    refine (w2 _).mono ?_
                    rintro r L' ⟨cs2, B2, hb2, hc2, rfl⟩
                    have hb21 := hb2.isOne
                    repeat (first | intro id | refine goq ?_)
                    rw [done _ hua]
                    exact ⟨rfl, r, cs2, B2, by exact slotq, by exact slotq, by rw [List.length_eraseIdx, if_pos (by omega), hel]; exact hb2, hc2, Sub.hd⟩
                · have hnu : ¬(true = true ∧ undoB (gO l i) (gO l j) = true) := by
                    unfold undoB
                    rw [decide_eq_false hge]
                    simp
                  repeat (first | intro id | refine goc ?_)
                  rw [decide_eq_false hge]
                  repeat (first | intro id | refine goc ?_)
                  refine wo_cond_f (by exact slotq) (wo_skip (seqO.n ?_))
                  refine tail _ _ id hnu ?_ ?_ ?_ ?_ ?_ ?_ ?_ ?_ .here
                  · exact hK.trans (by exact keepq)
                  · exact slotq
                  · exact slotq
                  · exact slotq
                  · exact slotq
                  · exact slotq
                  · exact slotq
                  · exact .next hi9
              · subst hcn
                repeat (first | intro id | refine goc ?_)
                refine wo_cond_f (by exact slotq) (wo_skip (seqO.n ?_))
                repeat (first | intro id | refine goc ?_)
                refine wo_cond_f (by exact slotq) (wo_skip (seqO.n ?_))
                refine tail _ _ id (by simp) ?_ ?_ ?_ ?_ ?_ ?_ ?_ ?_ .here
                · exact hK.trans (by exact keepq)
                · exact slotq
                · exact slotq
                · exact slotq
                · exact slotq
                · exact slotq
                · exact slotq
                · exact .next hi9
        have hi9 := @In.here id [aint (gO l j).kind, aint (gO l j).gate, q, aint (gO l j).bit, aint (gO l j).ifc, aint (gO l j).whn] L
        rcases Bool.eq_false_or_eq_true cn with hcn | hcn
        · have hg1 : (gO l j).gate ≠ 1 := fun h => hg ⟨hcn, h⟩
          subst hcn
          repeat (first | intro id | refine goc ?_)
          refine wo_cond_f (by exact slotq) (wo_skip (seqO.n ?_))
          repeat (first | intro id | refine goc ?_)
          rw [decide_eq_false hg1]
          refine wo_cond_f (by exact slotq) (wo_skip (seqO.n ?_))
          refine rest _ _ id ?_ ?_ ?_ ?_ ?_ hi9
          · exact keepq
          · exact slotq
          · exact slotq
          · exact slotq
          · exact slotq
        · subst hcn
          repeat (first | intro id | refine goc ?_)
          refine wo_cond_f (by exact slotq) (wo_skip (seqO.n ?_))
          repeat (first | intro id | refine goc ?_)
          refine wo_cond_f (by exact slotq) (wo_skip (seqO.n ?_))
          refine rest _ _ id ?_ ?_ ?_ ?_ ?_ hi9
          · exact keepq
          · exact slotq
          · exact slotq
          · exact slotq
          · exact slotq
end Go.Proofs.YtmflheoafeenfaaGreat
