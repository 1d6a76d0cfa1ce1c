/- Parts of the proof, joined by program: RwU3, RwU4, RwU5, RwU6, RwU7. -/
import Derived.Test.YtmflheoafeenfaaGreatPa25
import Derived.Test.YtmflheoafeenfaaGreatPa11
set_option linter.unusedSimpArgs false
set_option linter.unusedVariables false
namespace Go.Proofs.YtmflheoafeenfaaGreat
open Go.Am
set_option maxRecDepth 4000
set_option maxHeartbeats 8000000
variable {L : Hp}
def OpsW (v : AVal) (T : List Trip) (B : Hp) : Prop := (v = anil ∧ T = [] ∧ B = []) ∨ ∃ ic tl, v = .sl ic 0 T.length 6 none ∧ B = [(ic, tpC T ++ tl)]
theorem OpsW.isOne {v : AVal} {T : List Trip} {B : Hp} (h : OpsW v T B) : v.one = true := by
  rcases h with ⟨rfl, -, -⟩ | ⟨ic, tl, rfl, -⟩ <;> rfl
theorem tpO_len (T : List Trip) : (tpO T).length = T.length := by simp [tpO]
theorem tpO_get {T : List Trip} {i : Nat} (h : i < T.length) : gO (tpO T) i = T[i].o := by simp [gO, tpO, h]
theorem tpW_seg {T : List Trip} {tl : List AVal} {i : Nat} (h : i < T.length) : seg (tpC T ++ tl) (0 + i * 6) 6 = some (opCells T[i].u T[i].o) := by
  have hl := tpC_len T
  have e : T = T.take i ++ T[i] :: T.drop (i + 1) := by rw [← List.drop_eq_getElem_cons h, List.take_append_drop]
  have h1 : seg (tpC T) (i * 6) 6 = some (opCells T[i].u T[i].o) := by
    have := tp_seg (xs := T.take i) (ys := T.drop (i + 1)) T[i] (k := i) (by simp; omega)
    rw [← e] at this
    exact this
  rw [Nat.zero_add]
  unfold seg at h1 ⊢
  rw [if_pos (by omega)] at h1
  rw [if_pos (by simp; omega), List.drop_append_of_le_length (by omega), List.take_append_of_le_length (by simp; omega)]
  exact h1
theorem opsW_views {T : List Trip} {tl : List AVal} {ic j : Nat} {M : Hp} (hT : TrOk T) (hl : T.length < 2 ^ 62) (hi : In ic (tpC T ++ tl) M) (hM : ∀ id c, In id c (tpH T) → In id c M) : ∃ u, OpsA u (tpO T) ∧ ViewsO M [.sl ic 0 T.length 6 none, aint j] [u, aint j] := by
  obtain ⟨us, h1, h2⟩ := hT.ops.view (M := M) 61 hM
  have hs : seg (tpC T ++ tl) 0 (T.length * 6) = some (tpC T) := by
    unfold seg
    have := tpC_len T
    rw [if_pos (by simp; omega), List.drop_zero, ← this, List.take_left]
  refine ⟨.rs us T.length none, ⟨us, .inr ⟨none, by rw [tpO_len]⟩, h2, by rw [tpO_len]; exact hl⟩, vs_view rfl (vo_sl hi hs h1) (vs_bare rfl vs_nil)⟩
/-- What a rule does at a place. -/
structure RuleO (f : FuncId) (p : List OpD → Nat → Option (List OpD)) : Prop where
  ok : ∀ (T : List Trip) (v : AVal) (B L : Hp) (j : Nat) (n b : Int), TrOk T → OpsW v T B → j < T.length → T.length ≤ 1000000 → OkL n b (tpO T) → plainB (gO (tpO T) j) = true →
    CallO ER f [v, aint j] (B ++ (tpH T ++ L)) fun r L' => (p (tpO T) j = none ∧ (∃ u, r = .tup [u, abool false] ∧ u.one = true) ∧ L' = B ++ (tpH T ++ L)) ∨ ∃ T' v' B', p (tpO T) j = some (tpO T') ∧ TrOk T' ∧ Am.Sub (tpH T') (tpH T) ∧ T'.length < T.length ∧ r = .tup [v', abool true] ∧ OpsW v' T' B' ∧ L' = B' ++ (B ++ (tpH T ++ L))
def useN (l : List OpD) (j : Nat) : Option (List OpD) := if (gO l j).gate = 1 then some (l.eraseIdx j) else none
theorem withoutT (hst : still ER c_slices_Delete_api_Op_api_Op_r5 = true) {T : List Trip} {tl : List AVal} {j ic : Nat} (hT : TrOk T) (hj : j < T.length) (hl : T.length ≤ 1000000) {M : Hp} (hi : In ic (tpC T ++ tl) M) : CallO ER f_rewrite_without [.sl ic 0 T.length 6 none, aint j] M fun r L' => ∃ id tl, r = .sl id 0 (T.length - 1) 6 none ∧ L' = (id, tpC (T.eraseIdx j) ++ tl) :: M := by
  refine (without_open hst (tpC_len T) (tpC_all hT) hj hl hi).mono ?_
  rintro r L' ⟨id, tl2, rfl, rfl⟩
  rw [tpC_erase]
  exact ⟨id, tl2, rfl, rfl⟩
theorem nothing_ok (hst : still ER c_slices_Delete_api_Op_api_Op_r5 = true) : RuleO f_rewrite_nothing useN := ⟨fun T v B L j n b hT hW hj hl hok hp => by
  refine CallO.to (callO_open rfl n_rewrite_nothing ?_)
  rcases hW with ⟨-, rfl, -⟩ | ⟨ic, tl, rfl, rfl⟩
  · simp at hj
  have hsg := tpW_seg (tl := tl) hj
  have hg1 : (tpC T ++ tl)[0 + j * 6 + 1]? = some (aint T[j].o.gate) := by rw [seg_get hsg (by omega)]; rfl
  have hlc := (List.getElem?_eq_some_iff.1 hg1).1
  have hu : useN (tpO T) j = if T[j].o.gate = 1 then some ((tpO T).eraseIdx j) else none := by unfold useN; rw [tpO_get hj]
  by_cases hg : T[j].o.gate = 1
  · rw [if_pos hg] at hu
    refine bodyO_of (Nat.le_of_ble_eq_true rfl) ?_; generalize ht : argSlots _ 0 .nil = t; have h0 : t.get 0 = some _ := (by rw [← ht]; rfl); have h1 : t.get 1 = some _ := (by rw [← ht]; rfl); clear ht
    repeat (first | intro id | refine goq ?_)
    refine gok ?_
    refine (withoutT hst hT hj hl .here).mono ?_
    rintro r L' ⟨id, tl2, rfl, rfl⟩
    repeat (first | intro id | refine goq ?_)
    ((first | apply retO_r | apply retO_n); (focus (exact resq)))
    refine ⟨_, Sub.refl _, .inr ⟨T.eraseIdx j, _, [(id, tpC (T.eraseIdx j) ++ tl2)], by rw [hu, tpO_erase], hT.erase j, tpH_erase T j, by rw [List.length_eraseIdx, if_pos hj]; omega, rfl, .inr ⟨id, tl2, by rw [List.length_eraseIdx, if_pos hj], rfl⟩, rfl⟩⟩
  · rw [if_neg hg] at hu
    refine bodyO_of (Nat.le_of_ble_eq_true rfl) ?_; generalize ht : argSlots _ 0 .nil = t; have h0 : t.get 0 = some _ := (by rw [← ht]; rfl); have h1 : t.get 1 = some _ := (by rw [← ht]; rfl); clear ht
    repeat (first | intro id | refine goq ?_)
    ((first | apply retO_r | apply retO_n); (focus (exact resq)))
    exact ⟨_, Sub.refl _, .inl ⟨hu, ⟨_, rfl, rfl⟩, rfl⟩⟩⟩
end Go.Proofs.YtmflheoafeenfaaGreat
namespace Go.Proofs.YtmflheoafeenfaaGreat
open Go.Am
set_option maxRecDepth 4000
set_option maxHeartbeats 8000000
variable {L : Hp}
def useI (l : List OpD) (j : Nat) : Option (List OpD) := if partI l j < 0 ∨ undoP (gO l (partI l j).toNat) (gO l j) = false then none else some ((l.eraseIdx j).eraseIdx (partI l j).toNat)
theorem ok_plain {o : OpD} {n b : Int} (h : OpOk o n b) (hp : plainB o = true) : (o.qs.length : Int) = arity o.gate ∧ 0 < o.qs.length ∧ arity o.gate ≠ 0 ∧ Qs n o.qs := by
  simp only [plainB, Bool.and_eq_true, decide_eq_true_eq] at hp
  rcases h with ⟨h1, h2, h3, h4, -⟩ | h | h | h
  · refine ⟨h3, ?_, h2, h4⟩
    have : 0 ≤ arity o.gate := by unfold arity; (repeat' split) <;> omega
    omega
  · omega
  · omega
  · omega
theorem inverse_ok (hst : still ER c_slices_Delete_api_Op_api_Op_r5 = true) (hs2 : still ER c_rewrite_inverse_r2 = true) (hsp : still ER c_rewrite_partner_r3 = true) (hsu : still ER c_rewrite_undoes_r1 = true) (hse : still ER c_slices_Equal_int_int_r6 = true) : RuleO f_rewrite_inverse useI := ⟨fun T v B L j n b hT hW hj hl hok hp => by
  refine CallO.to (callO_open rfl n_rewrite_inverse ?_)
  rcases hW with ⟨-, rfl, -⟩ | ⟨ic, tl, rfl, rfl⟩
  · simp at hj
  have hjO : gO (tpO T) j = T[j].o := tpO_get hj
  obtain ⟨u, hu, hv⟩ := opsW_views (tl := tl) (ic := ic) (j := j) (M := [(ic, tpC T ++ tl)] ++ (tpH T ++ L)) hT (by omega) .here (fun id c hi => (hi.appl).app)
  have pt := partner_ok hsp hv hu (by rw [tpO_len]; exact hj)
  have hlt := partI_lt (tpO T) j
  by_cases hneg : partI (tpO T) j < 0
  · have hun : useI (tpO T) j = none := by unfold useI; rw [if_pos (.inl hneg)]
    refine bodyO_of (Nat.le_of_ble_eq_true rfl) ?_; generalize ht : argSlots _ 0 .nil = t; have h0 : t.get 0 = some _ := (by rw [← ht]; rfl); have h1 : t.get 1 = some _ := (by rw [← ht]; rfl); clear ht
    repeat (first | intro id | refine goq ?_)
    refine gok ?_
    refine pt.mono ?_
    rintro r L' ⟨rfl, rfl⟩
    repeat (first | intro id | refine goq ?_)
    ((first | apply retO_r | apply retO_n); (focus (exact resq)))
    exact ⟨_, Sub.refl _, .inl ⟨hun, ⟨_, rfl, rfl⟩, rfl⟩⟩
  · obtain ⟨i, hi⟩ : ∃ i : Nat, partI (tpO T) j = (i : Int) := ⟨(partI (tpO T) j).toNat, by omega⟩
    have hij : i < j := by omega
    have hiT : i < T.length := by omega
    have hiO : gO (tpO T) i = T[i].o := tpO_get hiT
    have hui : useI (tpO T) j = if undoP T[i].o T[j].o = false then none else some (((tpO T).eraseIdx j).eraseIdx i) := by
      unfold useI
      rw [hi, Int.toNat_natCast, hiO, hjO]
      by_cases h : undoP T[i].o T[j].o = false
      · rw [if_pos (.inr h), if_pos h]
      · rw [if_neg (by rintro (h1 | h1); omega; exact h h1), if_neg h]
    have hmi := List.getElem_mem hiT
    have hmj := List.getElem_mem hj
    have sgi := tpW_seg (tl := tl) hiT
    have sgj := tpW_seg (tl := tl) hj
    obtain ⟨hTi, -⟩ := hT _ hmi
    obtain ⟨hTj, -⟩ := hT _ hmj
    have oki : OpOk T[i].o n b := by have := hok _ (gO_mem (l := tpO T) (j := i) (by rw [tpO_len]; exact hiT)); rwa [hiO] at this
    have okj : OpOk T[j].o n b := by have := hok _ (gO_mem (l := tpO T) (j := j) (by rw [tpO_len]; exact hj)); rwa [hjO] at this
    rw [hjO] at hp
    have bi := trip_box hmi
    have bj := trip_box hmj
    have u1 := hTi.isOne
    have u2 := hTj.isOne
    obtain ⟨qi, hqi, vi⟩ := hTi.views
    obtain ⟨qj, hqj, vj⟩ := hTj.views
    have un := undoes_ok (L := [(ic, tpC T ++ tl)] ++ (tpH T ++ L)) hsu hse hqi hqj (fun h => ⟨(ok_plain oki h).1, (ok_plain oki h).2.1⟩) ⟨(ok_plain okj hp).1, (ok_plain okj hp).2.1⟩ (vi _ (fun id c h => ((bi id c h).appl).app) _ _ (vj _ (fun id c h => ((bj id c h).appl).app) _ _ vs_nil))
    have w1 := fun (M : Hp) (h : In ic (tpC T ++ tl) M) => withoutT hst hT hj hl h
    have hel : (T.eraseIdx j).length = T.length - 1 := by rw [List.length_eraseIdx, if_pos hj]
    have w2 := fun (id : Nat) (tl2 : List AVal) (M : Hp) => withoutT (M := (id, tpC (T.eraseIdx j) ++ tl2) :: M) (j := i) hst (hT.erase j) (by omega) (by omega) .here
    rw [hel] at w2
    have hTe : tpO ((T.eraseIdx j).eraseIdx i) = ((tpO T).eraseIdx j).eraseIdx i := by rw [tpO_erase, tpO_erase]
    have hsub : Am.Sub (tpH ((T.eraseIdx j).eraseIdx i)) (tpH T) := (tpH_erase _ i).trans (tpH_erase T j)
    have hell : ((T.eraseIdx j).eraseIdx i).length = T.length - 1 - 1 := by rw [List.length_eraseIdx, if_pos (by omega), hel]
    generalize T[i] = pi at *
    generalize T[j] = pj at *
    unfold opCells at sgi sgj un
    rw [hi] at pt
    refine bodyO_of (Nat.le_of_ble_eq_true rfl) ?_; generalize ht : argSlots _ 0 .nil = t; have h0 : t.get 0 = some _ := (by rw [← ht]; rfl); have h1 : t.get 1 = some _ := (by rw [← ht]; rfl); clear ht
    repeat (first | intro id | refine goq ?_)
    refine gok ?_
    refine pt.mono ?_
    rintro r L' ⟨rfl, rfl⟩
    repeat (first | intro id | refine goq ?_)
    refine gok ?_
    refine un.mono ?_
    rintro r L' ⟨rfl, rfl⟩
    cases hu1 : undoP pi.o pj.o with
    | false =>
      rw [if_pos hu1] at hui
      repeat (first | intro id | refine goq ?_)
      ((first | apply retO_r | apply retO_n); (focus (exact resq)))
      exact ⟨_, Sub.refl _, .inl ⟨hui, ⟨_, rfl, rfl⟩, rfl⟩⟩
    | true =>
      rw [if_neg (by rw [hu1]; simp)] at hui
      repeat (first | intro id | refine goq ?_)
      refine gok ?_
      refine (w1 _ .here).mono ?_
      rintro r L' ⟨id1, tl1, rfl, rfl⟩
      repeat (first | intro id | refine goq ?_)
      refine gok ?_
      refine (w2 id1 tl1 _).mono ?_
      rintro r L' ⟨id2, tl2, rfl, rfl⟩
      repeat (first | intro id | refine goq ?_)
      ((first | apply retO_r | apply retO_n); (focus (exact resq)))
      exact ⟨(id2, tpC ((T.eraseIdx j).eraseIdx i) ++ tl2) :: ([(ic, tpC T ++ tl)] ++ (tpH T ++ L)), by exact subq, .inr ⟨(T.eraseIdx j).eraseIdx i, _, [(id2, tpC ((T.eraseIdx j).eraseIdx i) ++ tl2)], by rw [hui, hTe], (hT.erase j).erase i, hsub, by rw [hell]; omega, rfl, .inr ⟨id2, tl2, by rw [hell], rfl⟩, rfl⟩⟩⟩
end Go.Proofs.YtmflheoafeenfaaGreat
namespace Go.Proofs.YtmflheoafeenfaaGreat
open Go.Am
set_option maxRecDepth 4000
set_option maxHeartbeats 8000000
variable {L : Hp}
def useC (l : List OpD) (j : Nat) : Option (List OpD) := if partI l j < 0 ∨ plainB (gO l (partI l j).toNat) = false ∨ (gO l (partI l j).toNat).qs ≠ (gO l j).qs ∨ compG (gO l (partI l j).toNat).gate (gO l j).gate = 0 then none else some ((l.eraseIdx j).set (partI l j).toNat { gO l (partI l j).toNat with gate := compG (gO l (partI l j).toNat).gate (gO l j).gate })
theorem OwnI.viewsS {u : AVal} {l : List Int} {B : Hp} (h : OwnI u l B) : ∃ q, SlI q l ∧ ∀ M : Hp, (∀ id c, In id c B → In id c M) → ∀ vs us, ViewsO M vs us → ViewsO M (u :: vs) (q :: us) := by
  rcases h with ⟨rfl, rfl, rfl⟩ | ⟨id, cap, rfl, rfl⟩
  · exact ⟨anil, .inl ⟨rfl, rfl, rfl⟩, fun M _ vs us hv => vs_bare rfl hv⟩
  · exact ⟨.rs (l.map aint) l.length cap, .inr ⟨cap, rfl⟩, fun M hM vs us hv => vs_view rfl (vo_sl (hM _ _ .here) (by rw [Nat.mul_one]; exact seg_full (by simp)) (vl_sc (sc_ints l))) hv⟩
/-- A gate turned. -/
def Trip.kind (p : Trip) (k : Int) : Trip := ⟨p.u, { p.o with gate := k }, p.B⟩
theorem tpC_mid (xs ys : List Trip) (p : Trip) : tpC (xs ++ p :: ys) = tpC xs ++ (opCells p.u p.o ++ tpC ys) := by simp [tpC]
theorem tpH_mid (xs ys : List Trip) (p : Trip) : tpH (xs ++ p :: ys) = tpH xs ++ (p.B ++ tpH ys) := by simp [tpH]
theorem tpW_set {T : List Trip} {tl : List AVal} {i : Nat} {k : Int} (h : i < T.length) : (tpC T ++ tl).set (i * 6 + 1) (aint k) = tpC (T.set i (T[i].kind k)) ++ tl := by
  have hl := tpC_len T
  have e : T = T.take i ++ T[i] :: T.drop (i + 1) := by rw [← List.drop_eq_getElem_cons h, List.take_append_drop]
  have e2 : T.set i (T[i].kind k) = T.take i ++ T[i].kind k :: T.drop (i + 1) := by rw [List.set_eq_take_append_cons_drop, if_pos h]
  have hx : (tpC (T.take i)).length = i * 6 := by rw [tpC_len]; simp; omega
  rw [List.set_append_left _ _ (by omega), e2]
  conv => lhs; rw [e]
  rw [tpC_mid, tpC_mid, ← hx, List.set_append_right _ _ (by omega)]
  congr 2
  rw [Nat.add_sub_cancel_left]
  rfl
theorem TrOk.set {T : List Trip} {i : Nat} {k : Int} (h : TrOk T) (hi : i < T.length) : TrOk (T.set i (T[i].kind k)) := fun p hp => by
  rcases List.mem_or_eq_of_mem_set hp with hp | rfl
  · exact h p hp
  · have := h T[i] (List.getElem_mem hi)
    exact this
theorem tpH_set {T : List Trip} {i : Nat} {k : Int} (hi : i < T.length) : tpH (T.set i (T[i].kind k)) = tpH T := by
  have e : T = T.take i ++ T[i] :: T.drop (i + 1) := by rw [← List.drop_eq_getElem_cons hi, List.take_append_drop]
  rw [List.set_eq_take_append_cons_drop, if_pos hi]
  conv => rhs; rw [e]
  rw [tpH_mid, tpH_mid]
  rfl
theorem tpO_set {T : List Trip} {i : Nat} {k : Int} (hi : i < T.length) : tpO (T.set i (T[i].kind k)) = (tpO T).set i { T[i].o with gate := k } := by
  simp [tpO, Trip.kind, List.map_set]
/-- What is asked of gate.Compose. -/
def CompOk : Prop := ∀ (a b : Int) (M : Hp), arity a = arity b → arity a ≠ 0 → CallO ER f_gate_Compose [aint a, aint b] M fun r L' => r = .tup [aint (compG a b), abool (decide (compG a b ≠ 0))] ∧ L' = M
theorem compose_ok (hcomp : CompOk) (hst : still ER c_slices_Delete_api_Op_api_Op_r5 = true) (hs2 : still ER c_rewrite_compose_r2 = true) (hs4 : still ER c_rewrite_compose_r4 = true) (hsp : still ER c_rewrite_partner_r3 = true) (hse : still ER c_slices_Equal_int_int_r6 = true) : RuleO f_rewrite_compose useC := ⟨fun T v B L j n b hT hW hj hl hok hp => by
  refine CallO.to (callO_open rfl n_rewrite_compose ?_)
  rcases hW with ⟨-, rfl, -⟩ | ⟨ic, tl, rfl, rfl⟩
  · simp at hj
  have hjO : gO (tpO T) j = T[j].o := tpO_get hj
  obtain ⟨u, hu, hv⟩ := opsW_views (tl := tl) (ic := ic) (j := j) (M := [(ic, tpC T ++ tl)] ++ (tpH T ++ L)) hT (by omega) .here (fun id c hi => (hi.appl).app)
  have pt := partner_ok hsp hv hu (by rw [tpO_len]; exact hj)
  have hlt := partI_lt (tpO T) j
  by_cases hneg : partI (tpO T) j < 0
  · have hun : useC (tpO T) j = none := by unfold useC; rw [if_pos (.inl hneg)]
    refine bodyO_of (Nat.le_of_ble_eq_true rfl) ?_; generalize ht : argSlots _ 0 .nil = t; have h0 : t.get 0 = some _ := (by rw [← ht]; rfl); have h1 : t.get 1 = some _ := (by rw [← ht]; rfl); clear ht
    repeat (first | intro id | refine goq ?_)
    refine gok ?_
    refine pt.mono ?_
    rintro r L' ⟨rfl, rfl⟩
    repeat (first | intro id | refine goq ?_)
    ((first | apply retO_r | apply retO_n); (focus (exact resq)))
    exact ⟨_, Sub.refl _, .inl ⟨hun, ⟨_, rfl, rfl⟩, rfl⟩⟩
  · obtain ⟨i, hi⟩ : ∃ i : Nat, partI (tpO T) j = (i : Int) := ⟨(partI (tpO T) j).toNat, by omega⟩
    have hij : i < j := by omega
    have hiT : i < T.length := by omega
    have hiO : gO (tpO T) i = T[i].o := tpO_get hiT
    have hui : useC (tpO T) j = if plainB T[i].o = false ∨ T[i].o.qs ≠ T[j].o.qs ∨ compG T[i].o.gate T[j].o.gate = 0 then none else some (((tpO T).eraseIdx j).set i { T[i].o with gate := compG T[i].o.gate T[j].o.gate }) := by
      unfold useC
      rw [hi, Int.toNat_natCast, hiO, hjO]
      by_cases h : plainB T[i].o = false ∨ T[i].o.qs ≠ T[j].o.qs ∨ compG T[i].o.gate T[j].o.gate = 0
      · rw [if_pos (.inr h), if_pos h]
      · rw [if_neg (by rintro (h1 | h1); omega; exact h h1), if_neg h]
    have hmi := List.getElem_mem hiT
    have hmj := List.getElem_mem hj
    have sgi := tpW_seg (tl := tl) hiT
    have sgj := tpW_seg (tl := tl) hj
    have gi1 : (tpC T ++ tl)[0 + i * 6 + 1]? = some (aint T[i].o.gate) := by rw [seg_get sgi (by omega)]; rfl
    have gi2 : (tpC T ++ tl)[0 + i * 6 + 2]? = some T[i].u := by rw [seg_get sgi (by omega)]; rfl
    have gj1 : (tpC T ++ tl)[0 + j * 6 + 1]? = some (aint T[j].o.gate) := by rw [seg_get sgj (by omega)]; rfl
    have gj2 : (tpC T ++ tl)[0 + j * 6 + 2]? = some T[j].u := by rw [seg_get sgj (by omega)]; rfl
    have li1 := (List.getElem?_eq_some_iff.1 gi1).1
    have li2 := (List.getElem?_eq_some_iff.1 gi2).1
    have lj1 := (List.getElem?_eq_some_iff.1 gj1).1
    have lj2 := (List.getElem?_eq_some_iff.1 gj2).1
    obtain ⟨hTi, hTil⟩ := hT _ hmi
    obtain ⟨hTj, hTjl⟩ := hT _ hmj
    have oki : OpOk T[i].o n b := by have := hok _ (gO_mem (l := tpO T) (j := i) (by rw [tpO_len]; exact hiT)); rwa [hiO] at this
    have okj : OpOk T[j].o n b := by have := hok _ (gO_mem (l := tpO T) (j := j) (by rw [tpO_len]; exact hj)); rwa [hjO] at this
    rw [hjO] at hp
    have bi := trip_box hmi
    have bj := trip_box hmj
    have u1 := hTi.isOne
    have u2 := hTj.isOne
    obtain ⟨qi, hqi, vi⟩ := hTi.views
    obtain ⟨si, hsi, wi⟩ := hTi.viewsS
    obtain ⟨sj, hsj, wj⟩ := hTj.viewsS
    have pl := plain_ok (L := [(ic, tpC T ++ tl)] ++ (tpH T ++ L)) (E := ER) rfl rfl hqi (vi _ (fun id c h => ((bi id c h).appl).app) _ _ vs_nil)
    have eq := equalI_ok (L := [(ic, tpC T ++ tl)] ++ (tpH T ++ L)) (E := ER) rfl rfl hse (wi _ (fun id c h => ((bi id c h).appl).app) _ _ (wj _ (fun id c h => ((bj id c h).appl).app) _ _ vs_nil)) hsi hsj hTil
    have w1 := fun (M : Hp) (h : In ic (tpC T ++ tl) M) => withoutT hst hT hj hl h
    have hel : (T.eraseIdx j).length = T.length - 1 := by rw [List.length_eraseIdx, if_pos hj]
    have hiE : i < (T.eraseIdx j).length := by omega
    have hgE : (T.eraseIdx j)[i] = T[i] := List.getElem_eraseIdx_of_lt hiE hij
    have hset := fun (tl2 : List AVal) (k : Int) => tpW_set (tl := tl2) (k := k) hiE
    have hTs := fun (k : Int) => (hT.erase j).set (k := k) hiE
    have hHs := fun (k : Int) => tpH_set (k := k) hiE
    have hOs := fun (k : Int) => tpO_set (k := k) hiE
    simp only [hgE] at hset hTs hHs hOs
    rw [tpO_erase] at hOs
    have hlE := fun (tl2 : List AVal) => (show 0 + i * 6 + 1 < (tpC (T.eraseIdx j) ++ tl2).length by rw [List.length_append, tpC_len]; omega)
    generalize T[i] = pi at *
    generalize T[j] = pj at *
    unfold opCells at sgi sgj pl
    rw [hi] at pt
    refine bodyO_of (Nat.le_of_ble_eq_true rfl) ?_; generalize ht : argSlots _ 0 .nil = t; have h0 : t.get 0 = some _ := (by rw [← ht]; rfl); have h1 : t.get 1 = some _ := (by rw [← ht]; rfl); clear ht
    repeat (first | intro id | refine goq ?_)
    refine gok ?_
    refine pt.mono ?_
    rintro r L' ⟨rfl, rfl⟩
    repeat (first | intro id | refine goq ?_)
    refine gok ?_
    refine pl.mono ?_
    rintro r L' ⟨rfl, rfl⟩
    cases hpi : plainB pi.o with
    | false =>
      rw [if_pos (.inl hpi)] at hui
      repeat (first | intro id | refine goq ?_)
      ((first | apply retO_r | apply retO_n); (focus (exact resq)))
      exact ⟨_, Sub.refl _, .inl ⟨hui, ⟨_, rfl, rfl⟩, rfl⟩⟩
    | true =>
      repeat (first | intro id | refine goq ?_)
      refine gok ?_
      refine eq.mono ?_
      rintro r L' ⟨rfl, rfl⟩
      by_cases hqs : pi.o.qs = pj.o.qs
      · rw [decide_eq_true hqs]
        have har : arity pi.o.gate = arity pj.o.gate := by
          have h1 := (ok_plain oki hpi).1
          have h2 := (ok_plain okj hp).1
          rw [hqs] at h1
          omega
        have hcp := fun (M : Hp) => hcomp pi.o.gate pj.o.gate M har (ok_plain oki hpi).2.2.1
        repeat (first | intro id | refine goq ?_)
        refine gok ?_
        refine (hcp _).mono ?_
        rintro r L' ⟨rfl, rfl⟩
        by_cases hk : compG pi.o.gate pj.o.gate = 0
        · rw [if_pos (.inr (.inr hk))] at hui
          rw [decide_eq_false (by simpa using hk)]
          repeat (first | intro id | refine goq ?_)
          ((first | apply retO_r | apply retO_n); (focus (exact resq)))
          exact ⟨_, Sub.refl _, .inl ⟨hui, ⟨_, rfl, rfl⟩, rfl⟩⟩
        · rw [if_neg (by rintro (h | h | h); (rw [hpi] at h; cases h); exact h hqs; exact hk h)] at hui
          rw [decide_eq_true hk]
          generalize compG pi.o.gate pj.o.gate = kk at *
          repeat (first | intro id | refine goq ?_)
          refine gok ?_
          refine (w1 _ .here).mono ?_
          rintro r L' ⟨id1, tl1, rfl, rfl⟩
          have hl1 := hlE tl1
          repeat (first | intro id | refine goq ?_)
          ((first | apply retO_r | apply retO_n); (focus (exact resq)))
          rw [hset]
          refine ⟨_, Sub.refl _, .inr ⟨(T.eraseIdx j).set i (pi.kind kk), _, [(id1, tpC ((T.eraseIdx j).set i (pi.kind kk)) ++ tl1)], by rw [hui, hOs], hTs kk, by rw [hHs]; exact tpH_erase T j, by rw [List.length_set]; omega, rfl, .inr ⟨id1, tl1, by rw [List.length_set, hel], rfl⟩, rfl⟩⟩
      · rw [decide_eq_false hqs]
        rw [if_pos (.inr (.inl hqs))] at hui
        repeat (first | intro id | refine goq ?_)
        ((first | apply retO_r | apply retO_n); (focus (exact resq)))
        exact ⟨_, Sub.refl _, .inl ⟨hui, ⟨_, rfl, rfl⟩, rfl⟩⟩⟩
end Go.Proofs.YtmflheoafeenfaaGreat
namespace Go.Proofs.YtmflheoafeenfaaGreat
open Go.Am
set_option maxRecDepth 4000
set_option maxHeartbeats 8000000
variable {L : Hp}
structure RuleP where
  f : FuncId
  p : List OpD → Nat → Option (List OpD)
def RuleP.cell (r : RuleP) : AVal := .fn (.func r.f) [] []
def tryR : List RuleP → List OpD → Nat → Option (List OpD)
  | [], _, _ => none
  | r :: rs, l, j => match r.p l j with
    | some l' => some l'
    | none => tryR rs l j
/-- Rules that come to the document's. -/
structure RulesFor (rs : List RuleP) (cn mg : Bool) : Prop where
  ok : ∀ r ∈ rs, RuleO r.f r.p
  eq : ∀ (n b : Int) (l : List OpD) (j : Nat), OkL n b l → j < l.length → plainB (gO l j) = true → tryR rs l j = useAt cn mg l j
  len : rs.length ≤ 10
def usedHp (i8 i4 : Nat) (q b : Int) (v : AVal) (B : Hp) (T : List Trip) (L : Hp) : Hp := (i8, [aint q, aint b, v]) :: (i4, [aint 0, aint 0, anil]) :: (B ++ (tpH T ++ L))
/-- What a rule has come to. -/
def DoneU (l' : List OpD) (T : List Trip) (i8 i4 : Nat) (q b : Int) (t : Tr AVal) (L : Hp) (ex : Ex) (t' : Tr AVal) (L' : Hp) : Prop :=
  ex = .exit 1 ∧ Keep [1, 4, 8] t t' ∧ ∃ T' v' B', tpO T' = l' ∧ TrOk T' ∧ Am.Sub (tpH T') (tpH T) ∧ T'.length < T.length ∧ OpsW v' T' B' ∧ Am.Sub (usedHp i8 i4 q b v' B' T' L) L'
theorem Sub.under {A B L : Hp} (h : Am.Sub A B) : Am.Sub (A ++ L) (B ++ L) := by
  obtain ⟨R, hr⟩ := h
  refine ⟨R, (hr.append_right L).trans ?_⟩
  rw [List.append_assoc, List.append_assoc]
  exact List.Perm.append_left A List.perm_append_comm
theorem Sub.front {A B : Hp} (P : Hp) (h : Am.Sub A B) : Am.Sub (P ++ A) (P ++ B) := by
  obtain ⟨R, hr⟩ := h
  exact ⟨R, by rw [List.append_assoc]; exact hr.append_left P⟩
theorem Sub.keep {p : Nat × List AVal} {A B : Hp} (h : Am.Sub A B) : Am.Sub (p :: A) (p :: B) := Sub.front [p] h
theorem In.ofMem {id : Nat} {cs : List AVal} : ∀ {M : Hp}, (id, cs) ∈ M → In id cs M
  | [], h => (List.not_mem_nil h).elim
  | p :: M, h => by
    rcases List.mem_cons.1 h with rfl | h
    · exact .here
    · exact .next (In.ofMem h)
theorem Sub.inOf {A M : Hp} {id : Nat} {cs : List AVal} (h : Am.Sub A M) (hi : In id cs A) : In id cs M := by
  obtain ⟨R, hr⟩ := h
  exact In.ofMem (hr.mem_iff.2 (List.mem_append_left R hi.mem))
theorem used_l0 {rs : List RuleP} {cn mg : Bool} (hrs : RulesFor rs cn mg) {i8 i4 ir : Nat} {q b n0 b0 : Int} {T : List Trip} {v : AVal} {B L : Hp} {j : Nat} (hT : TrOk T) (hW : OpsW v T B) (hj : j < T.length) (hl : T.length ≤ 1000000) (hok : OkL n0 b0 (tpO T)) (hp : plainB (gO (tpO T) j) = true) (hir : In ir (rs.map RuleP.cell) L) :
    ∀ (d k : Nat) (t : Tr AVal), d + k = rs.length → t.get 8 = some (.ptr i8 0) → t.get 9 = some (aint j) → t.get 38 = some (.sl ir 0 rs.length 1 (some rs.length)) → t.get 39 = some (aint rs.length) → t.get 40 = some (aint k) →
    WpO ER (.loop c_rewrite_used_l0) t (usedHp i8 i4 q b v B T L) (fun ex t' L' => match tryR (rs.drop k) (tpO T) j with
      | none => ex = .exit 4 ∧ Keep [1, 4, 8, 27, 28] t t' ∧ L' = usedHp i8 i4 q b v B T L
      | some l' => DoneU l' T i8 i4 q b t L ex t' L') := by
  have hv1 := hW.isOne
  have hrl := hrs.len
  intro d
  induction d with
  | zero =>
    intro k t hd h8 h9 h38 h39 h40
    obtain rfl : k = rs.length := by omega
    rw [List.drop_length]
    unfold usedHp
    refine wo_loop ?_
    repeat (first | intro id | refine goq ?_)
    exact ⟨rfl, by exact keepq, rfl⟩
  | succ d ih =>
    intro k t hd h8 h9 h38 h39 h40
    have hk : k < rs.length := by omega
    have hg : (rs.map RuleP.cell)[k]? = some (.fn (.func (rs[k]).f) [] []) := by simp [hk, RuleP.cell]
    have hgl : (rs.map RuleP.cell).length = rs.length := by simp
    have hru := hrs.ok rs[k] (List.getElem_mem hk)
    have hc := hru.ok T v B ((i8, [aint q, aint b, v]) :: (i4, [aint 0, aint 0, anil]) :: L) j n0 b0 hT hW hj hl hok hp
    have hin : In ir (rs.map RuleP.cell) ((i8, [aint q, aint b, v]) :: (i4, [aint 0, aint 0, anil]) :: (B ++ (tpH T ++ L))) := .next (.next (In.app (In.app hir)))
    rw [List.drop_eq_getElem_cons hk]
    unfold tryR
    unfold usedHp
    refine wo_loop ?_
    repeat (first | intro id | refine goq ?_)
    refine gok ?_
    refine CallO.weak (CallO.mono hc ?_) (by exact subq)
    rintro r L' (⟨hn, ⟨u, rfl, hu1⟩, rfl⟩ | ⟨T', v', B', hs, hT', hsub, hlt, rfl, hW', rfl⟩)
    · rw [hn]
      repeat (first | intro id | refine goq ?_)
      refine WpO.weak (WpO.mono (ih (k + 1) _ (by omega) ?_ ?_ ?_ ?_ ?_) ?_) ?_
      · exact slotq
      · exact slotq
      · exact slotq
      · exact slotq
      · exact slotq
      · intro ex t' L' h
        split at h
        · rename_i h1
          simp only [h1]
          obtain ⟨e1, e2, e3⟩ := h
          exact ⟨e1, Keep.trans (by exact keepq) e2, e3⟩
        · rename_i l1 h1
          simp only [h1]
          obtain ⟨e1, e2, e3⟩ := h
          exact ⟨e1, Keep.trans (by exact keepq) e2, e3⟩
      · unfold usedHp
        exact subq
    · rw [hs]
      have hv1' := hW'.isOne
      repeat (first | intro id | refine goq ?_)
      refine ⟨rfl, by exact keepq, T', v', B', rfl, hT', hsub, hlt, hW', ?_⟩
      unfold usedHp
      refine Sub.trans (Sub.keep (Sub.keep (Sub.front B' (Sub.under hsub)))) ?_
      exact subq
theorem useFrom_succ (cn mg : Bool) (l : List OpD) (d j : Nat) : useFrom cn mg l (d + 1) j = match useAt cn mg l j with | some l' => some l' | none => useFrom cn mg l d (j + 1) := rfl
theorem used_l1 {rs : List RuleP} {cn mg : Bool} (hrs : RulesFor rs cn mg) {i8 i4 ir : Nat} {q b n0 b0 : Int} {T : List Trip} {v : AVal} {B L : Hp} (hT : TrOk T) (hW : OpsW v T B) (hl : T.length ≤ 1000000) (hok : OkL n0 b0 (tpO T)) (hir : In ir (rs.map RuleP.cell) L) :
    ∀ (d k : Nat) (t : Tr AVal), d + k = T.length → t.get 1 = some (.sl ir 0 rs.length 1 (some rs.length)) → t.get 8 = some (.ptr i8 0) → t.get 27 = some (aint T.length) → t.get 28 = some (aint k) →
    WpO ER (.loop c_rewrite_used_l1) t (usedHp i8 i4 q b v B T L) (fun ex t' L' => match useFrom cn mg (tpO T) d k with
      | none => ex = .exit 2 ∧ Keep [1, 4, 8] t t' ∧ L' = usedHp i8 i4 q b v B T L
      | some l' => DoneU l' T i8 i4 q b t L ex t' L') := by
  have hv1 := hW.isOne
  have hrl := hrs.len
  intro d
  induction d with
  | zero =>
    intro k t hd h1 h8 h27 h28
    obtain rfl : k = T.length := by omega
    unfold usedHp useFrom
    refine wo_loop ?_
    repeat (first | intro id | refine goq ?_)
    exact ⟨rfl, by exact keepq, rfl⟩
  | succ d ih =>
    intro k t hd h1 h8 h27 h28
    have hk : k < T.length := by omega
    have hkO : gO (tpO T) k = T[k].o := tpO_get hk
    have next : ∀ (t1 : Tr AVal) (L1 : Hp), useAt cn mg (tpO T) k = none → Keep [1, 4, 8] t t1 → t1.get 1 = some (.sl ir 0 rs.length 1 (some rs.length)) → t1.get 8 = some (.ptr i8 0) → t1.get 27 = some (aint T.length) → t1.get 28 = some (aint ((k + 1 : Nat) : Int)) → L1 = usedHp i8 i4 q b v B T L →
        WpO ER (.loop c_rewrite_used_l1) t1 L1 (fun ex t' L' => match useFrom cn mg (tpO T) (d + 1) k with
          | none => ex = .exit 2 ∧ Keep [1, 4, 8] t t' ∧ L' = usedHp i8 i4 q b v B T L
          | some l' => DoneU l' T i8 i4 q b t L ex t' L') := by
      intro t1 L1 hn hK g1 g8 g27 g28 eL
      subst eL
      rw [useFrom_succ, hn]
      refine WpO.mono (ih (k + 1) _ (by omega) g1 g8 g27 g28) ?_
      · intro ex t' L' h
        split at h
        · rename_i h1
          simp only [h1]
          obtain ⟨e1, e2, e3⟩ := h
          exact ⟨e1, hK.trans e2, e3⟩
        · rename_i l1 h1
          simp only [h1]
          obtain ⟨e1, e2, e3⟩ := h
          exact ⟨e1, hK.trans e2, e3⟩
    have hWc := hW
    rcases hWc with ⟨-, e, -⟩ | ⟨ic, tl, rfl, rfl⟩
    · rw [e] at hk; simp at hk
    have hsg := tpW_seg (tl := tl) hk
    have hmk := List.getElem_mem hk
    obtain ⟨hTk, -⟩ := hT _ hmk
    have bk := trip_box hmk
    obtain ⟨qk, hqk, vk⟩ := hTk.views
    have pl := plain_ok (L := usedHp i8 i4 q b (.sl ic 0 T.length 6 none) [(ic, tpC T ++ tl)] T L) (E := ER) rfl rfl hqk (vk _ (fun id c h => .next (.next (In.app ((bk id c h).appl)))) _ _ vs_nil)
    have uk := hTk.isOne
    rw [← hkO] at pl hsg
    unfold opCells at hsg pl
    unfold usedHp at pl ⊢
    refine wo_loop ?_
    repeat (first | intro id | refine goq ?_)
    refine gok ?_
    refine pl.mono ?_
    rintro r L' ⟨rfl, rfl⟩
    cases hp : plainB (gO (tpO T) k) with
    | false =>
      have hu : useAt cn mg (tpO T) k = none := by unfold useAt; rw [if_pos hp]
      repeat (first | intro id | refine goq ?_)
      refine next _ _ hu ?_ ?_ ?_ ?_ ?_ rfl
      · exact keepq
      · exact slotq
      · exact slotq
      · exact slotq
      · exact slotq
    | true =>
      have hu := hrs.eq n0 b0 (tpO T) k hok (by rw [tpO_len]; exact hk) hp
      repeat (first | intro id | refine goq ?_)
      refine WpO.mono (used_l0 hrs hT hW hk hl hok hp hir rs.length 0 _ (by omega) ?_ ?_ ?_ ?_ ?_) ?_
      · exact slotq
      · exact slotq
      · exact slotq
      · exact slotq
      · exact slotq
      · intro ex t1 L1 h
        rw [List.drop_zero, hu] at h
        split at h
        · rename_i hn
          obtain ⟨rfl, hK, rfl⟩ := h
          have m1 : t1.get 1 = some (.sl ir 0 rs.length 1 (some rs.length)) := (hK.ex 1 rfl).trans (by exact slotq)
          have m8 : t1.get 8 = some (.ptr i8 0) := (hK.ex 8 rfl).trans (by exact slotq)
          have m27 : t1.get 27 = some (aint T.length) := (hK.ex 27 rfl).trans (by exact slotq)
          have m28 : t1.get 28 = some (aint k) := (hK.ex 28 rfl).trans (by exact slotq)
          have hKt : Keep [1, 4, 8] t t1 := Keep.trans (by exact keepq) (hK.less rfl)
          clear hK
          refine blkO.x (blkO.n (seqO.n ?_))
          repeat (first | intro id | refine goq ?_)
          refine next _ _ hn ?_ ?_ ?_ ?_ ?_ rfl
          · exact hKt.trans (by exact keepq)
          · exact slotq
          · exact slotq
          · exact slotq
          · exact slotq
        · rename_i l1 hs
          obtain ⟨rfl, hK, e3⟩ := h
          refine blkO.y (by decide) (blkO.y (by decide) (seqO.x (seqO.x ?_)))
          rw [useFrom_succ, hs]
          exact ⟨rfl, Keep.trans (by exact keepq) hK, e3⟩
end Go.Proofs.YtmflheoafeenfaaGreat
namespace Go.Proofs.YtmflheoafeenfaaGreat
open Go.Am
set_option maxRecDepth 4000
set_option maxHeartbeats 8000000
variable {L : Hp}
theorem useFrom_ok {cn mg : Bool} {n b : Int} {l l' : List OpD} (ho : OkL n b l) : ∀ (d j : Nat), d + j ≤ l.length → useFrom cn mg l d j = some l' → OkL n b l'
  | 0, j, hd, h => by cases h
  | d + 1, j, hd, h => by
    unfold useFrom at h
    split at h
    · rename_i l1 h1
      cases h
      exact useAt_ok (by omega) ho h1
    · exact useFrom_ok ho d (j + 1) (by omega) h
theorem OpsW.slen {v : AVal} {T : List Trip} {B : Hp} (h : OpsW v T B) : sliceLen v = some T.length := by
  rcases h with ⟨rfl, rfl, -⟩ | ⟨ic, tl, rfl, -⟩ <;> rfl
theorem used_l2 {rs : List RuleP} {cn mg : Bool} (hrs : RulesFor rs cn mg) {i8 i4 ir : Nat} {q b n0 b0 : Int} {L : Hp} (hir : In ir (rs.map RuleP.cell) L) :
    ∀ (n : Nat) (T : List Trip) (v : AVal) (B : Hp) (t : Tr AVal), T.length < n → T.length ≤ 1000000 → TrOk T → OpsW v T B → OkL n0 b0 (tpO T) → t.get 1 = some (.sl ir 0 rs.length 1 (some rs.length)) → t.get 4 = some (.ptr i4 0) → t.get 8 = some (.ptr i8 0) →
    WpO ER (.loop c_rewrite_used_l2) t (usedHp i8 i4 q b v B T L) (fun ex t' L' => ex = .ret ∧ t'.get 4 = some (.ptr i4 0) ∧ t'.get 5 = some (aint 0) ∧ ∃ T' v' B', tpO T' = rulesF cn mg n (tpO T) ∧ TrOk T' ∧ T'.length ≤ T.length ∧ OpsW v' T' B' ∧ Am.Sub ((i4, [aint q, aint b, v']) :: (B' ++ (tpH T' ++ L))) L') := by
  intro n
  induction n with
  | zero => intro T v B t hn; omega
  | succ n ih =>
    intro T v B t hn hl hT hW hok h1 h4 h8
    have hv1 := hW.isOne
    have hsl := hW.slen
    unfold usedHp
    refine wo_loop ?_
    repeat (first | intro id | refine goq ?_)
    refine oo_p wanted_none (fun mm hmm => op_len (by exact slotq) hsl) ?_
    repeat (first | intro id | refine goq ?_)
    have e0 : rulesF cn mg (n + 1) (tpO T) = match useFrom cn mg (tpO T) T.length 0 with | some l' => rulesF cn mg n l' | none => tpO T := by rw [← tpO_len T]; rfl
    rw [e0]
    refine WpO.mono (used_l1 hrs (i8 := i8) (i4 := i4) (q := q) (b := b) hT hW hl hok hir T.length 0 _ (by omega) ?_ ?_ ?_ ?_) ?_
    · exact slotq
    · exact slotq
    · exact slotq
    · exact slotq
    · intro ex t1 L1 h
      split at h
      · rename_i hn
        obtain ⟨rfl, hK, rfl⟩ := h
        have m4 : t1.get 4 = some (.ptr i4 0) := (hK.ex 4 rfl).trans (by exact slotq)
        have m8 : t1.get 8 = some (.ptr i8 0) := (hK.ex 8 rfl).trans (by exact slotq)
        clear hK
        refine blkO.x (seqO.n ?_)
        unfold usedHp
        repeat (first | intro id | refine goq ?_)
        rw [hn]
        exact ⟨rfl, by exact slotq, by exact slotq, T, v, B, rfl, hT, Nat.le_refl _, hW, by exact subq⟩
      · rename_i l1 hs
        obtain ⟨rfl, hK, T', v', B', hO, hT', hsub, hlt, hW', hsb⟩ := h
        have hok' : OkL n0 b0 (tpO T') := by
          rw [hO]
          exact useFrom_ok hok T.length 0 (by rw [tpO_len]; omega) hs
        refine blkO.y (by decide) (seqO.x (blkO.x (seqO.n (WpO.weak ?_ hsb))))
        rw [hs, ← hO]
        refine WpO.mono (ih T' v' B' t1 (by omega) (by omega) hT' hW' hok' ?_ ?_ ?_) ?_
        · exact (hK.ex 1 rfl).trans (by exact slotq)
        · exact (hK.ex 4 rfl).trans (by exact slotq)
        · exact (hK.ex 8 rfl).trans (by exact slotq)
        · rintro ex t2 L2 ⟨e1, e2, e3, T2, v2, B2, k1, k2, k3, k4, k5⟩
          exact ⟨e1, e2, e3, T2, v2, B2, k1, k2, by omega, k4, k5⟩
def CircW (v : AVal) (c : CircD) (B : Hp) : Prop := ∃ s T Bs, v = .agg [aint c.qubits, aint c.bits, s] ∧ OpsW s T Bs ∧ TrOk T ∧ tpO T = c.ops ∧ T.length ≤ 4096 ∧ B = Bs ++ tpH T
def UsedO (cn mg : Bool) (c : CircD) (r : AVal) (B : Hp) : Prop := (¬ CircOk c ∧ r = .tup [.agg zeroC, aint 80] ∧ B = []) ∨ (CircOk c ∧ ∃ v, r = .tup [v, aint 0] ∧ CircW v ⟨c.qubits, c.bits, rulesL cn mg c.ops⟩ B)
theorem okL_of {c : CircD} (h : CircOk c) : OkL c.qubits c.bits c.ops := by
  intro o ho
  obtain ⟨k, hk, rfl⟩ := List.getElem_of_mem ho
  have := h.ok k hk
  simpa [hk] using this
theorem used_open {rs : List RuleP} {cn mg : Bool} (hrs : RulesFor rs cn mg) {ir : Nat} (hir : In ir (rs.map RuleP.cell) L) {v : AVal} {c : CircD} (hv : CircA v c) (hsm : Small c) : CallO ER f_rewrite_used [v, .sl ir 0 rs.length 1 (some rs.length)] L fun r L' => ∃ B, UsedO cn mg c r B ∧ L' = B ++ L := by
  refine CallO.to (callO_open rfl n_rewrite_used ?_)
  have hv0 := hv
  obtain ⟨s, rfl, ho⟩ := hv
  have hs1 : s.one = true := by obtain ⟨_, hr, -, -⟩ := ho; exact RowA.isOne hr
  refine bodyO_of (Nat.le_of_ble_eq_true rfl) ?_; generalize ht : argSlots _ 0 .nil = t; have h0 : t.get 0 = some _ := (by rw [← ht]; rfl); have h1 : t.get 1 = some _ := (by rw [← ht]; rfl); clear ht
  repeat (first | intro id | refine goq ?_)
  refine gok ?_
  refine (Check_okC (E := ER) rfl rfl rfl rfl rfl rfl rfl rfl rfl hv0).mono ?_
  rintro w L' ⟨⟨ie, e, rfl, hce⟩, rfl⟩
  rcases hce with ⟨rfl, hC⟩ | ⟨rfl, hC⟩
  · repeat (first | intro id | refine goq ?_)
    refine gok ?_
    refine (CCopy_open (E := ER) rfl rfl rfl hv0 hsm).mono ?_
    rintro r L' ⟨B, hB, rfl⟩
    obtain ⟨sc, cs, Bs, H, rfl, hb, hops, hlt, rfl⟩ := hB
    have hsc1 := hb.isOne
    obtain ⟨T, hT, rfl, hTo, rfl⟩ := hops.trip
    have hTl : T.length = c.ops.length := by rw [hTo, tpO_len]
    have hCl := hC.len
    have hW : OpsW sc T Bs := by
      rcases bufInv hb with ⟨rfl, -, e0, rfl⟩ | ⟨ic, rfl, rfl⟩
      · exact .inl ⟨rfl, List.eq_nil_of_length_eq_zero (by omega), rfl⟩
      · exact .inr ⟨ic, [], by rw [hTl], by simp⟩
    have hok : OkL c.qubits c.bits (tpO T) := by rw [← hTo]; exact okL_of hC
    repeat (first | intro id | refine goq ?_)
    rename_i i2 i4
    refine WpO.weak (WpO.mono (used_l2 (n0 := c.qubits) (b0 := c.bits) (i8 := id) (i4 := i4) (q := c.qubits) (b := c.bits) (L := (i2, [aint c.qubits, aint c.bits, s]) :: L) hrs (.next hir) (c.ops.length + 1) T sc Bs _ (by omega) (by omega) hT hW hok ?_ ?_ ?_) ?_) ?_
    · exact slotq
    · exact slotq
    · exact slotq
    · rintro ex t1 L1 ⟨rfl, g4, g5, T', v', B', hO, hT', hle, hW', hsub⟩
      have hv1 := hW'.isOne
      have hin : In i4 [aint c.qubits, aint c.bits, v'] L1 := Sub.inOf hsub .here
      refine blkO.r ?_
      ((first | apply retO_r | apply retO_n); (focus (exact resq)))
      refine ⟨(B' ++ tpH T') ++ L, Sub.trans ?_ hsub, B' ++ tpH T', .inr ⟨hC, _, rfl, v', T', B', rfl, hW', hT', ?_, by omega, rfl⟩, rfl⟩
      · simp only [List.append_assoc]
        exact subq
      · rw [hO, hTo, rulesL]
    · unfold usedHp
      simp only [List.append_assoc]
      exact subq
  · repeat (first | intro id | refine goq ?_)
    ((first | apply retO_r | apply retO_n); (focus (exact resq)))
    exact ⟨_, by exact subq, [], .inl ⟨hC, rfl, rfl⟩, rfl⟩
end Go.Proofs.YtmflheoafeenfaaGreat
