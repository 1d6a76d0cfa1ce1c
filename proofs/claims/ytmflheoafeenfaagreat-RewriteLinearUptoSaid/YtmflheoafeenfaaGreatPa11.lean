/- Parts of the proof, joined by program: RwS4, RwS5, RwIP, RwP1, RwP2, RwP3, RwP4, RwP5, RwP6, RwFR, RwP7, RwP8, RwQ1, RwQ2, RwM1, RwS6, RwS7. -/
import Derived.Test.YtmflheoafeenfaaGreatPa10
import Derived.Test.YtmflheoafeenfaaGreatPa8
import Derived.Test.YtmflheoafeenfaaGreatPa9
set_option linter.unusedSimpArgs false
set_option linter.unusedVariables false
namespace Go.Proofs.YtmflheoafeenfaaGreat
open Go.Am
set_option maxRecDepth 4000
set_option maxHeartbeats 16000000
variable {E : Env} {L : Hp}
theorem rlin_l1 (hF : E.fns = fnsT) (hmp : E.mode f_phasorref18_plain = .iso false) (h15 : still E c_phasorref18_Linear_r15 = true) (h18 : still E c_phasorref18_Linear_r18 = true)
    {c : CircD} {s1 : AVal} {cs0 : List AVal} {i1 : Nat} (hr : RowA s1 cs0 c.ops.length) (hcs : OpsC cs0 c.ops) (hC : CircOk c) {n : Nat} (hn : c.qubits = n) :
    ∀ (d k : Nat) (t : Tr AVal) (l : List Int) (v : AVal) (B L : Hp), d + k = c.ops.length → l.length = n → In i1 [aint c.qubits, aint c.bits, s1] L → t.get 1 = some (.ptr i1 0) → t.get 4 = some v → t.get 6 = some (aint k) → BufO 1 v (l.map au) n B →
    WpO E (.loop c_phasorref18_Linear_l1) t (B ++ L) (LinQ (linAll l (c.ops.drop k)) 4 n [1] t L) := by
  have hs1 := RowA.isOne hr
  have hlen := hC.len
  have hq1 := hC.q1
  intro d
  induction d with
  | zero =>
    intro k t l v B L hd hl hin h1 h4 h6 hb
    obtain rfl : k = c.ops.length := by omega
    have hv1 := hb.isOne
    have hin2 := In.app (A := B) hin
    rw [List.drop_length]
    refine wo_loop ?_
    repeat (first | intro id | refine goq ?_)
    exact ⟨rfl, by exact keepq, v, B, by exact slotq, hb, Sub.refl _⟩
  | succ d ih =>
    intro k t l v B L hd hl hin h1 h4 h6 hb
    have hkl : k < c.ops.length := by omega
    obtain ⟨q, hq, hqb, hlt6, hseg⟩ := hcs.getE hkl
    have hop := hC.ok k hkl
    have hin2 := In.app (A := B) hin
    rw [linAll_cons hkl]
    have hgo : c.ops.getD k default = gO c.ops k := rfl
    rw [hgo] at hq hqb hseg hop
    clear hgo
    generalize gO c.ops k = o at *
    have hq1' := RowA.isOne hq
    have hv1 := hb.isOne
    have pl := fun (M : Hp) => rplain_ok (L := M) hF hmp hq (vs_bare (bare_opV hq) vs_nil)
    have step : ∀ (t' : Tr AVal) (l' : List Int) (v' : AVal) (B' L' : Hp), Keep [1] t t' → l'.length = n → t'.get 4 = some v' → t'.get 6 = some (aint ((k + 1 : Nat) : Int)) → BufO 1 v' (l'.map au) n B' → Am.Sub (B' ++ L) L' → WpO E (.loop c_phasorref18_Linear_l1) t' L' (LinQ (linAll l' (c.ops.drop (k + 1))) 4 n [1] t L) := by
      intro t' l' v' B' L' hK hl' g4 g6 hb' hsub
      refine WpO.weak (WpO.mono (ih (k + 1) t' l' v' B' L (by omega) hl' hin ((hK.ex 1 rfl).trans h1) g4 g6 hb') ?_) hsub
      intro ex t2 L2 h
      unfold LinQ at h ⊢
      split at h
      · obtain ⟨e1, e2, e3⟩ := h
        exact ⟨e1, hK.trans e2, e3⟩
      · exact h
    unfold opV opCells at pl
    unfold opCells at hseg
    refine wo_loop ?_
    by_cases h4 : o.kind = 4
    · have hst : linStep l o = some l := by unfold linStep; rw [if_pos h4]
      rw [hst]
      rw [h4] at hseg
      repeat (first | intro id | refine goq ?_)
      refine step _ l v B _ (by exact keepq) hl ?_ ?_ hb ?_
      · exact slotq
      · exact slotq
      · exact subq
    · cases hp : plainB o with
      | false =>
        have hst : linStep l o = none := by unfold linStep; rw [if_neg h4, if_pos hp]
        rw [hst]
        repeat (first | intro id | refine goq ?_)
        refine gok ?_
        refine (pl _).mono ?_
        rintro r L' ⟨rfl, rfl⟩
        rw [hp]
        repeat (first | intro id | refine goq ?_)
        exact ⟨rfl, by exact slotq, by exact slotq⟩
      | true =>
        by_cases g1 : o.gate = 1
        · have hst : linStep l o = some l := by unfold linStep; rw [if_neg h4, if_neg (by simp [hp]), if_pos g1]
          rw [hst]
          repeat (first | intro id | refine goq ?_)
          refine gok ?_
          refine (pl _).mono ?_
          rintro r L' ⟨rfl, rfl⟩
          rw [hp]
          repeat (first | intro id | refine goq ?_)
          refine step _ l v B _ (by exact keepq) hl ?_ ?_ hb ?_
          · exact slotq
          · exact slotq
          · exact subq
        · by_cases g11 : o.gate = 11
          · have hst : linStep l o = some (l.set (qn o 1) (xorV (gU l (qn o 1)) (gU l (qn o 0)))) := by unfold linStep; rw [if_neg h4, if_neg (by simp [hp]), if_neg g1, if_pos g11]
            obtain ⟨hl2, x, y, ex, ey, hx, hy, e0, e1⟩ := two_qs hop hp (.inl g11)
            rw [e0, e1] at hst
            rw [hst]
            have hgx := getAu (l := l) (i := x) (by omega)
            have hgy := getAu (l := l) (i := y) (by omega)
            have hll : (l.map au).length = n := by simp [hl]
            rcases bufInv hb with ⟨rfl, -, hn0, -⟩ | ⟨ic, rfl, rfl⟩
            · omega
            have hset : (l.map au).set y (au (xorV (gU l y) (gU l x))) = (l.set y (xorV (gU l y) (gU l x))).map au := by simp
            repeat (first | intro id | refine goq ?_)
            refine gok ?_
            refine (pl _).mono ?_
            rintro r L' ⟨rfl, rfl⟩
            rw [hp]
            repeat (first | intro id | refine goq ?_)
            rw [ey]
            repeat (first | intro id | refine goq ?_)
            rw [ex]
            repeat (first | intro id | refine goq ?_)
            refine step _ (l.set y (xorV (gU l y) (gU l x))) (.sl ic 0 n 1 none) _ _ (by exact keepq) (by simp [hl]) ?_ ?_ (.box (by simp [hl]) (all_one_au _)) ?_
            · exact slotq
            · exact slotq
            · rw [← hset]
              exact subq
          · by_cases g14 : o.gate = 14
            · have hst : linStep l o = some ((l.set (qn o 0) (gU l (qn o 1))).set (qn o 1) (gU l (qn o 0))) := by unfold linStep; rw [if_neg h4, if_neg (by simp [hp]), if_neg g1, if_neg g11, if_pos g14]
              obtain ⟨hl2, x, y, ex, ey, hx, hy, e0, e1⟩ := two_qs hop hp (.inr g14)
              rw [e0, e1] at hst
              rw [hst]
              have hgx := getAu (l := l) (i := x) (by omega)
              have hgy := getAu (l := l) (i := y) (by omega)
              have hll : (l.map au).length = n := by simp [hl]
              rcases bufInv hb with ⟨rfl, -, hn0, -⟩ | ⟨ic, rfl, rfl⟩
              · omega
              have hset : ((l.map au).set x (au (gU l y))).set y (au (gU l x)) = ((l.set x (gU l y)).set y (gU l x)).map au := by simp
              have hll2 : ((l.map au).set x (au (gU l y))).length = n := by simp [hl]
              repeat (first | intro id | refine goq ?_)
              refine gok ?_
              refine (pl _).mono ?_
              rintro r L' ⟨rfl, rfl⟩
              rw [hp]
              repeat (first | intro id | refine goq ?_)
              rw [ex]
              repeat (first | intro id | refine goq ?_)
              rw [ey]
              repeat (first | intro id | refine goq ?_)
              rw [ex]
              repeat (first | intro id | refine goq ?_)
              rw [ey]
              repeat (first | intro id | refine goq ?_)
              refine step _ ((l.set x (gU l y)).set y (gU l x)) (.sl ic 0 n 1 none) _ _ (by exact keepq) (by simp [hl]) ?_ ?_ (.box (by simp [hl]) (all_one_au _)) ?_
              · exact slotq
              · exact slotq
              · rw [← hset]
                exact subq
            · have hst : linStep l o = none := by unfold linStep; rw [if_neg h4, if_neg (by simp [hp]), if_neg g1, if_neg g11, if_neg g14]
              rw [hst]
              repeat (first | intro id | refine goq ?_)
              refine gok ?_
              refine (pl _).mono ?_
              rintro r L' ⟨rfl, rfl⟩
              rw [hp]
              repeat (first | intro id | refine goq ?_)
              exact ⟨rfl, by exact slotq, by exact slotq⟩
end Go.Proofs.YtmflheoafeenfaaGreat
namespace Go.Proofs.YtmflheoafeenfaaGreat
open Go.Am
set_option maxRecDepth 4000
set_option maxHeartbeats 16000000
variable {E : Env} {L : Hp}
theorem LinR.same {c : CircD} {u w : AVal} (h : LinR c u) (k : LinR c w) : ∃ (s s' : AVal) (l : List Int) (e : Int), u = .tup [s, aint e] ∧ w = .tup [s', aint e] ∧ SlU s l ∧ SlU s' l ∧ l.length ≤ 64 := by
  have nil : SlU anil [] := .inl ⟨rfl, rfl, rfl⟩
  rcases h with ⟨h, rfl⟩ | ⟨h, h1, rfl⟩ | ⟨h, l, s, h1, rfl, h2⟩
  · rcases k with ⟨k, rfl⟩ | ⟨k, k1, rfl⟩ | ⟨k, l', s', k1, rfl, k2⟩
    · exact ⟨anil, anil, [], 80, rfl, rfl, nil, nil, by simp⟩
    · exact (h k).elim
    · exact (h k).elim
  · rcases k with ⟨k, rfl⟩ | ⟨k, k1, rfl⟩ | ⟨k, l', s', k1, rfl, k2⟩
    · exact (k h).elim
    · exact ⟨anil, anil, [], 180, rfl, rfl, nil, nil, by simp⟩
    · rw [h1] at k1; cases k1
  · rcases k with ⟨k, rfl⟩ | ⟨k, k1, rfl⟩ | ⟨k, l', s', k1, rfl, k2⟩
    · exact (k h).elim
    · rw [h1] at k1; cases k1
    · rw [h1] at k1
      cases k1
      have hq := h.q1
      exact ⟨s, s', l, 0, rfl, rfl, h2, k2, by rw [linAll_len h1, homeU_len]; omega⟩
theorem words_l0 {s s' : AVal} {l : List Int} (hs : SlU s l) (hs' : SlU s' l) (hl : l.length ≤ 2000000) (h5 : still E c_phasorlaw18_words_r5 = true) : ∀ (d k : Nat) (t : Tr AVal) (L : Hp), d + k = l.length → t.get 0 = some s → t.get 1 = some s' → t.get 5 = some (aint k) →
    WpO E (.loop c_phasorlaw18_words_l0) t L (fun ex t' L' => ex = .exit 0 ∧ L' = L) := by
  unfold SlU at hs hs'
  have hs1 := RowA.isOne hs
  have hs2 := RowA.isOne hs'
  intro d
  induction d with
  | zero =>
    intro k t L hd h0 h1 h5
    obtain rfl : k = l.length := by omega
    refine wo_loop ?_
    repeat (first | intro id | refine goq ?_)
    exact ⟨rfl, rfl⟩
  | succ d ih =>
    intro k t L hd h0 h1 h5
    have hk : k < l.length := by omega
    have hg : (List.drop (k * 1) (l.map au))[0]? = some (au (gU l k)) := by rw [Nat.mul_one, List.getElem?_drop, Nat.add_zero]; exact getAu hk
    refine wo_loop ?_
    repeat (first | intro id | refine goq ?_)
    have hne : (gU l k != gU l k) = false := by simp
    rw [hne]
    repeat (first | intro id | refine goq ?_)
    refine WpO.mono (ih (k + 1) _ L (by omega) ?_ ?_ ?_) ?_
    · exact slotq
    · exact slotq
    · exact slotq
    · exact fun ex t' L' h => h
theorem words_ok (hF : E.fns = fnsT) (hm : E.mode f_phasorlaw18_words = .iso false) (hst : still E c_phasorlaw18_words_r5 = true) {a b s s' : AVal} {l : List Int} (hv : ViewsO L [a, b] [s, s']) (hs : SlU s l) (hs' : SlU s' l) (hl : l.length ≤ 2000000) : CallO E f_phasorlaw18_words [a, b] L fun r L' => r = abool true ∧ L' = L := by
  refine callO_iso0 (R := fun r => r = abool true) hm (fns_of hF n_phasorlaw18_words) hv ?_
  have h1 := hs
  have h2 := hs'
  unfold SlU at h1 h2
  have hs1 := RowA.isOne h1
  have hs2 := RowA.isOne h2
  refine bodyO_of (Nat.le_of_ble_eq_true rfl) ?_; generalize ht : argSlots _ 0 .nil = t; have h0 : t.get 0 = some _ := (by rw [← ht]; rfl); have h1 : t.get 1 = some _ := (by rw [← ht]; rfl); clear ht
  repeat (first | intro id | refine goq ?_)
  refine WpO.mono (words_l0 hs hs' hl hst l.length 0 _ _ (by omega) ?_ ?_ ?_) ?_
  · exact slotq
  · exact slotq
  · exact slotq
  rintro ex t' L' ⟨rfl, rfl⟩
  refine blkO.x (seqO.n ?_)
  repeat (first | intro id | refine goq ?_)
  ((first | apply retO_r | apply retO_n); (focus (exact resq)))
  exact ⟨rfl, rfl⟩
theorem RLinear_ok (hF : E.fns = fnsT) (hm : E.mode f_phasorref18_Linear = .iso true) (hmp : E.mode f_phasorref18_plain = .iso false) (h15 : still E c_phasorref18_Linear_r15 = true) (h18 : still E c_phasorref18_Linear_r18 = true)
    (hmM : E.mode f_phasorref08_May = .iso false) (hmk : E.mode f_phasorref08_Check = .iso false) (hmo : E.mode f_phasorref08_Op = .iso false) (hmg : E.mode f_phasorref06_Check = .iso false) (hma : E.mode f_phasorref06_Arity = .iso false) (hmi : E.mode f_phasorref06_Is = .iso false) (hmu : E.mode f_phasorref08_unlike = .iso false) (hst : still E c_phasorref08_Check_r5 = true)
    {v : AVal} {c : CircD} (hv : CircA v c) : CallO E f_phasorref18_Linear [v] L fun r L' => LinR c r ∧ L' = L := by
  refine callO_iso1 (R := LinR c) hm (fns_of hF n_phasorref18_Linear) (by simp [hv.bare]) ?_
  have hv0 := hv
  obtain ⟨s, rfl, cs, hr, hcs, hlt⟩ := hv
  have hs1 := RowA.isOne hr
  refine bodyO_of (Nat.le_of_ble_eq_true rfl) ?_; generalize ht : argSlots _ 0 .nil = t; have h0 : t.get 0 = some _ := (by rw [← ht]; rfl); clear ht
  repeat (first | intro id | refine goq ?_)
  refine gok ?_
  refine (May_ok hF hmM hmk hmo hmg hma hmi hmu hst hv0).mono ?_
  rintro w L' ⟨⟨x, rfl, hx⟩, rfl⟩
  cases x with
  | true =>
    have hC := hx.1 rfl
    obtain ⟨n, hn⟩ : ∃ n : Nat, c.qubits = n := ⟨c.qubits.toNat, by have := hC.q0; omega⟩
    have hn64 : n ≤ 64 := by have := hC.q1; omega
    have hln := hC.len
    have hnn : c.qubits.toNat = n := by omega
    repeat (first | intro id | refine goq ?_)
    refine WpO.weak (WpO.mono (rlin_l0 (L := []) (i1 := id) (cs := [aint c.qubits, aint c.bits, s]) hn64 (by rw [hn]; rfl) n 0 _ anil [] (by omega) ?_ ?_ ?_ .nil) ?_) (by exact subq)
    · exact slotq
    · exact slotq
    · exact slotq
    rintro ex t1 L1 ⟨rfl, hK, v', B', g4, hb, rfl⟩
    have k1 : t1.get 1 = some (.ptr id 0) := (hK.ex 1 rfl).trans (by exact slotq)
    clear hK
    refine blkO.x (seqO.n ?_)
    repeat (first | intro id | refine goq ?_)
    refine WpO.mono (rlin_l1 hF hmp h15 h18 hr hcs hC hn c.ops.length 0 _ (homeU n) v' B' _ (by omega) (homeU_len n) .here ?_ ?_ ?_ hb) ?_
    · exact slotq
    · exact slotq
    · exact slotq
    intro ex t2 L2 h
    rw [List.drop_zero] at h
    unfold LinQ at h
    split at h
    · rename_i l' hl'
      obtain ⟨rfl, hK, v2, B2, g42, hb2, hsub⟩ := h
      refine blkO.x (seqO.n (WpO.weak ?_ hsub))
      repeat (first | intro id | refine goq ?_)
      ((first | apply retO_r | apply retO_n); (focus (exact resq)))
      obtain ⟨q, h1, h2⟩ := bufU_view (M := B2 ++ [(id, [aint c.qubits, aint c.bits, s])]) hb2 (by rw [linAll_len hl', homeU_len]) 61 (fun id c hi => hi.appl)
      exact ⟨.tup [q, aint 0], vo_tup (vl_cons h1 (vl_cons vo_sc vl_nil)), .inr (.inr ⟨hC, l', q, by rw [hnn]; exact hl', rfl, h2⟩)⟩
    · rename_i hl'
      obtain ⟨rfl, g2, g3⟩ := h
      refine blkO.r (seqO.r ?_)
      ((first | apply retO_r | apply retO_n); (focus (exact resq)))
      exact ⟨.tup [anil, aint 180], vo_tup (vl_cons vo_sc (vl_cons vo_sc vl_nil)), .inr (.inl ⟨hC, by rw [hnn]; exact hl', rfl⟩)⟩
  | false =>
    have hC : ¬ CircOk c := fun h => by have := hx.2 h; cases this
    repeat (first | intro id | refine goq ?_)
    ((first | apply retO_r | apply retO_n); (focus (exact resq)))
    exact ⟨.tup [anil, aint 80], vo_tup (vl_cons vo_sc (vl_cons vo_sc vl_nil)), .inl ⟨hC, rfl⟩⟩
end Go.Proofs.YtmflheoafeenfaaGreat
namespace Go.Proofs.YtmflheoafeenfaaGreat
open Go.Am
set_option maxRecDepth 4000
set_option maxHeartbeats 4000000
variable {E : Env} {L : Hp}
theorem vo_fn {k : Nat} {g : Fn} {a b a' b' : List AVal} (h1 : ViewL L k a a') (h2 : ViewL L k b b') : ViewO L (k + 1) (.fn g a b) (.fn g a' b') := ⟨fun m hm => by simp only [view, h1.ex m hm, h2.ex m hm]⟩
theorem vo_ptr {k id off : Nat} {cs us : List AVal} (hi : In id cs L) (ho : off ≤ cs.length) (h : ViewL L k (cs.drop off) us) : ViewO L (k + 1) (.ptr id off) (.ro us) := ⟨fun m hm => by simp only [view, hm.get hi, ho, if_true, h.ex m hm, Option.map_some]⟩
/-- Where the first of a kind lies. -/
def IdxP (l : List Int) (p : Int → Bool) (i : Int) : Prop := (i = -1 ∧ ∀ j, j < l.length → p (l.getD j 0) = false) ∨ (∃ k : Nat, i = k ∧ k < l.length ∧ p (l.getD k 0) = true ∧ ∀ j, j < k → p (l.getD j 0) = false)
end Go.Proofs.YtmflheoafeenfaaGreat
namespace Go.Proofs.YtmflheoafeenfaaGreat
open Go.Am
set_option maxRecDepth 4000
set_option maxHeartbeats 8000000
variable {E : Env} {L : Hp}
end Go.Proofs.YtmflheoafeenfaaGreat
namespace Go.Proofs.YtmflheoafeenfaaGreat
open Go.Am
set_option maxRecDepth 4000
set_option maxHeartbeats 8000000
variable {E : Env} {L : Hp}
end Go.Proofs.YtmflheoafeenfaaGreat
namespace Go.Proofs.YtmflheoafeenfaaGreat
open Go.Am
set_option maxRecDepth 4000
set_option maxHeartbeats 16000000
variable {E : Env} {L : Hp}
/-- Operations in boxes, by their numbers. -/
structure OpsF (cs : List AVal) (os : List OpD) (H : Hp) (u : Nat → AVal) (Bf : Nat → Hp) : Prop where
  len : cs.length = os.length * 6
  seg : ∀ k, k < os.length → seg cs (0 + k * 6) 6 = some (opCells (u k) (gO os k))
  own : ∀ k, k < os.length → OwnI (u k) (gO os k).qs (Bf k)
  ql : ∀ k, k < os.length → (gO os k).qs.length < 2 ^ 62
  H : H = (List.range os.length).flatMap Bf
theorem flatMap_congr' {α β : Type} {f g : α → List β} : ∀ {l : List α}, (∀ x ∈ l, f x = g x) → l.flatMap f = l.flatMap g
  | [], _ => rfl
  | x :: l, h => by rw [List.flatMap_cons, List.flatMap_cons, h x (by simp), flatMap_congr' (fun y hy => h y (by simp [hy]))]
theorem OpsB.fn {cs : List AVal} {os : List OpD} {H : Hp} (h : OpsB cs os H) : ∃ u Bf, OpsF cs os H u Bf := by
  induction h with
  | nil => exact ⟨fun _ => anil, fun _ => [], rfl, fun k hk => by simp at hk, fun k hk => by simp at hk, fun k hk => by simp at hk, rfl⟩
  | @snoc cs os H B u o h hq hb ih =>
    obtain ⟨u0, Bf, ih⟩ := ih
    have hl := ih.len
    have g1 : ∀ k, k < os.length → gO (os ++ [o]) k = gO os k := fun k hk => by simp [gO, List.getElem?_append_left hk]
    have g2 : gO (os ++ [o]) os.length = o := by simp [gO]
    refine ⟨fun k => if k = os.length then u else u0 k, fun k => if k = os.length then B else Bf k, ?_, ?_, ?_, ?_, ?_⟩
    · simp [hl, opCells]; omega
    · intro k hk
      by_cases e : k = os.length
      · subst e
        rw [if_pos rfl, g2, Am.seg, if_pos (by simp [hl, opCells]), Nat.zero_add, ← hl, List.drop_left]
        simp [opCells]
      · have hk2 : k < os.length := by simp at hk; omega
        rw [if_neg e, g1 k hk2]
        have hs := ih.seg k hk2
        unfold Am.seg at hs ⊢
        split at hs
        · rename_i hle
          rw [if_pos (by simp; omega), List.drop_append_of_le_length (by omega), List.take_append_of_le_length (by simp; omega)]
          exact hs
        · cases hs
    · intro k hk
      by_cases e : k = os.length
      · subst e
        rw [if_pos rfl, if_pos rfl, g2]
        exact hq
      · have hk2 : k < os.length := by simp at hk; omega
        rw [if_neg e, if_neg e, g1 k hk2]
        exact ih.own k hk2
    · intro k hk
      by_cases e : k = os.length
      · subst e
        rw [g2]
        exact hb
      · have hk2 : k < os.length := by simp at hk; omega
        rw [g1 k hk2]
        exact ih.ql k hk2
    · rw [List.length_append, List.length_singleton, List.range_succ, List.flatMap_append, ih.H]
      congr 1
      · refine flatMap_congr' fun x hx => ?_
        rw [if_neg (by have := List.mem_range.1 hx; omega)]
      · simp
theorem OpsF.box {cs : List AVal} {os : List OpD} {H : Hp} {u : Nat → AVal} {Bf : Nat → Hp} (h : OpsF cs os H u Bf) {k : Nat} (hk : k < os.length) : ∀ id c, In id c (Bf k) → In id c H := by
  intro id c hi
  rw [h.H]
  have : ∀ (l : List Nat), k ∈ l → In id c (l.flatMap Bf) := by
    intro l
    induction l with
    | nil => intro h; simp at h
    | cons x l ih =>
      intro hm
      rw [List.flatMap_cons]
      rcases List.mem_cons.1 hm with rfl | hm
      · exact hi.appl
      · exact (ih hm).app
  exact this _ (List.mem_range.2 hk)
theorem OwnI.views {v : AVal} {o : OpD} {B : Hp} (h : OwnI v o.qs B) : ∃ q, SlI q o.qs ∧ ∀ M : Hp, (∀ id c, In id c B → In id c M) → ∀ vs us, ViewsO M vs us → ViewsO M (.agg (opCells v o) :: vs) (opV q o :: us) := by
  rcases h with ⟨rfl, e, rfl⟩ | ⟨id, cap, rfl, rfl⟩
  · have hq : SlI anil o.qs := by rw [e]; exact .inl ⟨rfl, rfl, rfl⟩
    exact ⟨anil, hq, fun M _ vs us hv => vs_bare (bare_opV hq) hv⟩
  · refine ⟨.rs (o.qs.map aint) o.qs.length cap, .inr ⟨cap, rfl⟩, fun M hM vs us hv => vs_view rfl ?_ hv⟩
    exact vo_agg (vl_cons vo_sc (vl_cons vo_sc (vl_cons (vo_sl (hM _ _ .here) (by rw [Nat.mul_one]; exact seg_full (by simp)) (vl_sc (sc_ints o.qs))) (vl_cons vo_sc (vl_cons vo_sc (vl_cons vo_sc vl_nil))))))
end Go.Proofs.YtmflheoafeenfaaGreat
namespace Go.Proofs.YtmflheoafeenfaaGreat
open Go.Am
set_option maxRecDepth 4000
set_option maxHeartbeats 16000000
variable {E : Env} {L : Hp}
end Go.Proofs.YtmflheoafeenfaaGreat
namespace Go.Proofs.YtmflheoafeenfaaGreat
open Go.Am
set_option maxRecDepth 4000
set_option maxHeartbeats 16000000
variable {E : Env} {L : Hp}
/-- What Order tells, in boxes of its own. -/
def OrdO (c : CircD) (r : AVal) (B : Hp) : Prop := (¬ CircOk c ∧ r = .tup [.agg zeroC, aint 80] ∧ B = []) ∨ (CircOk c ∧ ∃ v, r = .tup [v, aint 0] ∧ CircO v ⟨c.qubits, c.bits, ordL c.ops⟩ B)
end Go.Proofs.YtmflheoafeenfaaGreat
namespace Go.Proofs.YtmflheoafeenfaaGreat
open Go.Am
set_option maxRecDepth 4000
set_option maxHeartbeats 16000000
variable {E : Env} {L : Hp}
end Go.Proofs.YtmflheoafeenfaaGreat
namespace Go.Proofs.YtmflheoafeenfaaGreat
open Go.Am
set_option maxRecDepth 4000
set_option maxHeartbeats 8000000
variable {E : Env} {L : Hp}
/-! A copied circuit, from the front -/
inductive OpsS (cs : List AVal) (os : List OpD) : Nat → Hp → Prop where
  | done : OpsS cs os os.length []
  | more {k : Nat} {u : AVal} {B H : Hp} (hk : k < os.length) (hs : seg cs (0 + k * 6) 6 = some (opCells u (os.getD k default))) (hq : OwnI u (os.getD k default).qs B) (h : OpsS cs os (k + 1) H) : OpsS cs os k (B ++ H)
theorem OpsS.set {cs : List AVal} {os : List OpD} {k i : Nat} {H : Hp} {v : AVal} (h : OpsS cs os k H) (hi : i < k * 6) : OpsS (cs.set i v) os k H := by
  induction h with
  | done => exact .done
  | @more k u B H hk hs hq h ih =>
    refine .more (u := u) hk ?_ hq (ih (by omega))
    unfold seg at hs ⊢
    rw [List.length_set]
    split at hs
    · rename_i hle
      rw [if_pos hle]
      rw [List.drop_set_of_lt (by omega)]
      exact hs
    · cases hs
theorem CircO.views {v : AVal} {c : CircD} {B M : Hp} (h : CircO v c B) (hM : ∀ id c, In id c B → In id c M) : ∃ u, CircA u c ∧ ∀ vs us, ViewsO M vs us → ViewsO M (v :: vs) (u :: us) := by
  have h0 := h
  obtain ⟨s, cs, Bs, H, rfl, hb, ho, hlt, rfl⟩ := h
  rcases bufInv hb with ⟨rfl, -, e, -⟩ | ⟨id, rfl, -⟩
  · have e3 : c.ops = [] := List.eq_nil_of_length_eq_zero e
    exact ⟨_, ⟨anil, rfl, [], .inl ⟨rfl, e, rfl⟩, by rw [e3]; exact .nil, by omega⟩, fun vs us hv => vs_bare rfl hv⟩
  · obtain ⟨u, h1, h2⟩ := h0.view 60 hM
    exact ⟨u, h2, fun vs us hv => vs_view rfl h1 hv⟩
end Go.Proofs.YtmflheoafeenfaaGreat
namespace Go.Proofs.YtmflheoafeenfaaGreat
open Go.Am
set_option maxRecDepth 4000
set_option maxHeartbeats 16000000
variable {E : Env} {L : Hp}
end Go.Proofs.YtmflheoafeenfaaGreat
namespace Go.Proofs.YtmflheoafeenfaaGreat
open Go.Am
set_option maxRecDepth 4000
set_option maxHeartbeats 16000000
variable {E : Env} {L : Hp}
theorem OrdO.shape {c : CircD} {r : AVal} {B : Hp} (h : OrdO c r B) : ∃ (q b e : Int) (s : AVal) (d : CircD), r = .tup [.agg [aint q, aint b, s], aint e] ∧ s.one = true ∧ CircO (.agg [aint q, aint b, s]) d B ∧ ((¬ CircOk c ∧ e = 80 ∧ d = ⟨0, 0, []⟩) ∨ (CircOk c ∧ e = 0 ∧ d = ⟨c.qubits, c.bits, ordL c.ops⟩)) := by
  rcases h with ⟨h, rfl, rfl⟩ | ⟨h, v, rfl, hv⟩
  · exact ⟨0, 0, 80, anil, ⟨0, 0, []⟩, rfl, rfl, ⟨anil, [], [], [], rfl, .nil, .nil, by simp, rfl⟩, .inl ⟨h, rfl, rfl⟩⟩
  · have hv0 := hv
    obtain ⟨s, cs, Bs, H, rfl, hb, -, -, -⟩ := hv
    exact ⟨c.qubits, c.bits, 0, s, _, rfl, hb.isOne, hv0, .inr ⟨h, rfl, rfl⟩⟩
theorem ReoR.same {c d : CircD} {u w : AVal} (h : ReoR c d u) (k : ReoR c d w) : w = u ∧ ∃ x e, u = .tup [abool x, aint e] := by
  rcases h with ⟨h1, rfl⟩ | ⟨h1, h2, x, rfl, h3⟩
  · rcases k with ⟨k1, rfl⟩ | ⟨k1, k2, y, rfl, k3⟩
    · exact ⟨rfl, _, _, rfl⟩
    · exact (h1 ⟨k1, k2⟩).elim
  · rcases k with ⟨k1, rfl⟩ | ⟨k1, k2, y, rfl, k3⟩
    · exact (k1 ⟨h1, h2⟩).elim
    · have : x = y := by
        have := h3.trans k3.symm
        cases x <;> cases y <;> simp_all
      subst this
      exact ⟨rfl, _, _, rfl⟩
theorem num18_ok (hF : E.fns = fnsT) (hm : E.mode f_phasorlaw18_num = .iso false) (n : Int) : CallO E f_phasorlaw18_num [aint n] L fun v L' => v = aint n ∧ L' = L := by
  refine callO_iso0 hm (fns_of hF n_phasorlaw18_num) (vs_bare rfl vs_nil) ?_
  refine bodyO_of (Nat.le_of_ble_eq_true rfl) ?_; generalize ht : argSlots _ 0 .nil = t; have h0 : t.get 0 = some _ := (by rw [← ht]; rfl); clear ht
  repeat (first | intro id | refine goq ?_)
  ((first | apply retO_r | apply retO_n); (focus (exact resq)))
  exact ⟨rfl, rfl⟩
end Go.Proofs.YtmflheoafeenfaaGreat
namespace Go.Proofs.YtmflheoafeenfaaGreat
open Go.Am
set_option maxRecDepth 4000
set_option maxHeartbeats 16000000
variable {E : Env} {L : Hp}
theorem oo_appendFB {t : Tr AVal} {K : Tr AVal → Hp → Prop} {l : List AO} {g : Option (Option Nat × Bool)} {n d : Nat} {x y : Arg} {bytes id off k esz j i : Nat} {cap : Option Nat} {cs old nw : List AVal} (hg : wantedA t g = some true) (hx : x.get t = some (.sl id off k esz (some k))) (hi : In id cs L) (hs : seg cs off (k * esz) = some old) (ho : old.all AVal.one = true) (hy : y.get t = some (.sl i 0 j esz cap)) (hj : In i nw L) (h0 : 0 < j) (hl : nw.length = j * esz) (h1 : nw.all AVal.one = true) (hr1 : (k + j) * bytes ≤ 140737488355328) (hr2 : k + j ≤ 140737488355328)
    (h : ∀ id2, OpsO E l (t.set d (some (.sl id2 0 (k + j) esz none))) ((id2, old ++ nw) :: L) K) : OpsO E (⟨some d, .append esz bytes x y, g, n⟩ :: l) t L K := ⟨fun m hm => by
  have hsc : sliceCells m esz j (.sl i 0 j esz cap) = some nw := by
    simp only [sliceCells, if_true, hm.get hj]
    exact seg_full hl
  exact ops_s hg (op_append hx hy (.full (hm.get hi) hs) rfl hsc h0 hr1 hr2 h1 ho) ((h m.next).ex _ hm.new)⟩
end Go.Proofs.YtmflheoafeenfaaGreat
namespace Go.Proofs.YtmflheoafeenfaaGreat
open Go.Am
set_option maxRecDepth 4000
set_option maxHeartbeats 16000000
variable {E : Env} {L : Hp}
end Go.Proofs.YtmflheoafeenfaaGreat
namespace Go.Proofs.YtmflheoafeenfaaGreat
open Go.Am
set_option maxRecDepth 4000
set_option maxHeartbeats 16000000
variable {E : Env} {L : Hp}
/-! Operations in boxes, in a row -/
structure Trip where
  u : AVal
  o : OpD
  B : Hp
def tpC (T : List Trip) : List AVal := T.flatMap fun p => opCells p.u p.o
def tpO (T : List Trip) : List OpD := T.map Trip.o
def tpH (T : List Trip) : Hp := T.flatMap Trip.B
def TrOk (T : List Trip) : Prop := ∀ p ∈ T, OwnI p.u p.o.qs p.B ∧ p.o.qs.length < 2 ^ 62
theorem OpsB.trip {cs : List AVal} {os : List OpD} {H : Hp} (h : OpsB cs os H) : ∃ T, TrOk T ∧ cs = tpC T ∧ os = tpO T ∧ H = tpH T := by
  induction h with
  | nil => exact ⟨[], fun p hp => (List.not_mem_nil hp).elim, rfl, rfl, rfl⟩
  | @snoc cs os H B u o h hq hb ih =>
    obtain ⟨T, h1, rfl, rfl, rfl⟩ := ih
    refine ⟨T ++ [⟨u, o, B⟩], fun p hp => ?_, by simp [tpC], by simp [tpO], by simp [tpH]⟩
    rcases List.mem_append.1 hp with hp | hp
    · exact h1 p hp
    · have := List.mem_singleton.1 hp
      subst this
      exact ⟨hq, hb⟩
theorem TrOk.app {T : List Trip} : ∀ {c0 : List AVal} {o0 : List OpD} {H0 : Hp}, OpsB c0 o0 H0 → TrOk T → OpsB (c0 ++ tpC T) (o0 ++ tpO T) (H0 ++ tpH T) := by
  induction T with
  | nil => intro c0 o0 H0 h0 _; simpa [tpC, tpO, tpH] using h0
  | cons p T ih =>
    intro c0 o0 H0 h0 hT
    have hp := hT p (by simp)
    have h1 := ih (h0.snoc hp.1 hp.2) fun q hq => hT q (by simp [hq])
    simpa [tpC, tpO, tpH] using h1
theorem TrOk.ops {T : List Trip} (h : TrOk T) : OpsB (tpC T) (tpO T) (tpH T) := by simpa using TrOk.app .nil h
theorem tpC_len (T : List Trip) : (tpC T).length = T.length * 6 := by
  induction T with
  | nil => rfl
  | cons p T ih =>
    have e : tpC (p :: T) = opCells p.u p.o ++ tpC T := by simp [tpC]
    have e2 : (opCells p.u p.o).length = 6 := rfl
    rw [e, List.length_append, e2, ih, List.length_cons]
    omega
theorem tp_seg {xs ys : List Trip} (a : Trip) {k : Nat} (hk : xs.length = k) : seg (tpC (xs ++ a :: ys)) (k * 6) 6 = some (opCells a.u a.o) := by
  have e : (tpC xs).length = k * 6 := by rw [tpC_len, hk]
  have e2 : tpC (xs ++ a :: ys) = tpC xs ++ (opCells a.u a.o ++ tpC ys) := by simp [tpC]
  rw [e2, seg, if_pos (by simp [e, opCells]), ← e, List.drop_left]
  simp [opCells]
theorem tp_put {xs ys : List Trip} (a b : Trip) {k : Nat} (hk : xs.length = k) : putSeg (tpC (xs ++ a :: ys)) (k * 6) (opCells b.u b.o) = tpC (xs ++ b :: ys) := by
  have e : (tpC xs).length = k * 6 := by rw [tpC_len, hk]
  have e2 : ∀ a : Trip, tpC (xs ++ a :: ys) = tpC xs ++ (opCells a.u a.o ++ tpC ys) := fun a => by simp [tpC]
  rw [e2, e2, putSeg, ← e, List.take_left]
  have e3 : (opCells b.u b.o).length = (opCells a.u a.o).length := rfl
  rw [e3, ← List.drop_drop, List.drop_left, List.drop_left, List.append_assoc]
theorem Sub.perm {A B L : Hp} (h : A.Perm B) : Am.Sub (A ++ L) (B ++ L) := ⟨[], by rw [List.append_nil]; exact (h.symm).append_right L⟩
end Go.Proofs.YtmflheoafeenfaaGreat
namespace Go.Proofs.YtmflheoafeenfaaGreat
open Go.Am
set_option maxRecDepth 4000
set_option maxHeartbeats 8000000
variable {E : Env} {L : Hp}
theorem bare_SlU {v : AVal} {l : List Int} (h : SlU v l) : v.bare = true := bare_Row h (by
  intro c hc
  obtain ⟨x, -, rfl⟩ := List.mem_map.1 hc
  rfl)
def shrV (r : Int) (k : Nat) : Int := r.fdiv (2 ^ (min k 64))
def andV (a b : Int) : Int := IntKind.wrap .u64 ((BitVec.ofInt 64 a &&& BitVec.ofInt 64 b).toNat : Int)
def bitB (r : Int) (k : Nat) : Bool := andV (shrV r k) 1 == 1
def overB (r : Int) (n : Nat) : Bool := shrV r n != 0
theorem Synth1_ok (hF : E.fns = fnsT) (hm : E.mode f_rewrite_Synth_1 = .iso false) {x : Int} {n : Nat} : CallO E f_rewrite_Synth_1 ([au x] ++ [.ro [aint n]]) L fun r L' => r = abool (overB x n) ∧ L' = L := by
  refine callO_iso0 (R := fun r => r = abool (overB x n)) hm (fns_of hF n_rewrite_Synth_1) (vs_bare rfl (vs_bare rfl vs_nil)) ?_
  refine bodyO_of (Nat.le_of_ble_eq_true rfl) ?_; generalize ht : argSlots _ 0 .nil = t; have h0 : t.get 0 = some _ := (by rw [← ht]; rfl); have h1 : t.get 1 = some _ := (by rw [← ht]; rfl); clear ht
  repeat (first | intro id | refine goq ?_)
  ((first | apply retO_r | apply retO_n); (focus (exact resq)))
  exact ⟨rfl, rfl⟩
theorem Synth3_ok (hF : E.fns = fnsT) (hm : E.mode f_rewrite_Synth_3 = .iso false) {x : Int} {n : Nat} {args : List AVal} (hw : ViewsO L args [au x, .ro [aint n]]) : CallO E f_rewrite_Synth_3 args L fun r L' => r = abool (bitB x n) ∧ L' = L := by
  refine callO_iso0 (R := fun r => r = abool (bitB x n)) hm (fns_of hF n_rewrite_Synth_3) hw ?_
  refine bodyO_of (Nat.le_of_ble_eq_true rfl) ?_; generalize ht : argSlots _ 0 .nil = t; have h0 : t.get 0 = some _ := (by rw [← ht]; rfl); have h1 : t.get 1 = some _ := (by rw [← ht]; rfl); clear ht
  repeat (first | intro id | refine goq ?_)
  ((first | apply retO_r | apply retO_n); (focus (exact resq)))
  exact ⟨rfl, rfl⟩
theorem indexU_l0 {g : FuncId} {cv : List AVal} {v : AVal} {l : List Int} {p : Int → Bool} (hv : SlU v l) (hlt : l.length < 2 ^ 62) (hc : ∀ j, j < l.length → CallO E g ([au (l.getD j 0)] ++ cv) L fun r L' => r = abool (p (l.getD j 0)) ∧ L' = L) :
    ∀ (d k : Nat) (t : Tr AVal), d + k = l.length → t.get 0 = some v → t.get 1 = some (.fn (.func g) [] cv) → t.get 7 = some (aint l.length) → t.get 8 = some (aint k) → (∀ j, j < k → p (l.getD j 0) = false) →
    WpO E (.loop c_slices_IndexFunc_uint64_uint64_l0) t L (fun ex t' L' => L' = L ∧ ((ex = .exit 0 ∧ ∀ j, j < l.length → p (l.getD j 0) = false) ∨ (ex = .ret ∧ ∃ i, t'.get 4 = some (aint i) ∧ IdxP l p i))) := by
  have hv0 := hv
  unfold SlU at hv
  have hv1 := RowA.isOne hv
  intro d
  induction d with
  | zero =>
    intro k t hk h0 h1 h7 h8 hno
    refine wo_loop ?_
    repeat (first | intro id | refine goq ?_)
    exact ⟨rfl, .inl ⟨rfl, fun j hj => hno j (by omega)⟩⟩
  | succ d ih =>
    intro k t hk h0 h1 h7 h8 hno
    have hkl : k < l.length := by omega
    have hcc := hc k hkl
    have hg : (List.drop (k * 1) (l.map au))[0]? = some (au (l.getD k 0)) := by rw [Nat.mul_one, List.getElem?_drop, Nat.add_zero]; exact getAu hkl
    refine wo_loop ?_
    repeat (first | intro id | refine goq ?_)
    refine gok ?_
    refine hcc.mono ?_
    rintro r L' ⟨rfl, rfl⟩
    cases hp : p (l.getD k 0) with
    | true =>
      repeat (first | intro id | refine goq ?_)
      exact ⟨rfl, .inr ⟨rfl, k, by exact slotq, .inr ⟨k, rfl, hkl, hp, hno⟩⟩⟩
    | false =>
      repeat (first | intro id | refine goq ?_)
      refine ih (k + 1) _ ?_ ?_ ?_ ?_ ?_ ?_
      · omega
      · exact slotq
      · exact slotq
      · exact slotq
      · exact slotq
      · intro j hj
        by_cases e : j = k
        · subst e; exact hp
        · exact hno j (by omega)
theorem indexU_ok (hF : E.fns = fnsT) (hm : E.mode f_slices_IndexFunc_uint64_uint64 = .iso false) {g : FuncId} {args cv : List AVal} {v : AVal} {l : List Int} {p : Int → Bool} (hw : ViewsO L args [v, .fn (.func g) [] cv]) (hv : SlU v l) (hlt : l.length < 2 ^ 62)
    (hc : ∀ j, j < l.length → CallO E g ([au (l.getD j 0)] ++ cv) [] fun r L' => r = abool (p (l.getD j 0)) ∧ L' = []) :
    CallO E f_slices_IndexFunc_uint64_uint64 args L fun r L' => (∃ i, r = aint i ∧ IdxP l p i) ∧ L' = L := by
  have hv0 := hv
  unfold SlU at hv
  have hv1 := RowA.isOne hv
  refine callO_iso0 (R := fun r => ∃ i, r = aint i ∧ IdxP l p i) hm (fns_of hF n_slices_IndexFunc_uint64_uint64) hw ?_
  refine bodyO_of (Nat.le_of_ble_eq_true rfl) ?_; generalize ht : argSlots _ 0 .nil = t; have h0 : t.get 0 = some _ := (by rw [← ht]; rfl); have h1 : t.get 1 = some _ := (by rw [← ht]; rfl); clear ht
  repeat (first | intro id | refine goq ?_)
  refine WpO.mono (indexU_l0 (p := p) hv0 hlt hc l.length 0 _ (by omega) ?_ ?_ ?_ ?_ (fun j hj => by omega)) ?_
  · exact slotq
  · exact slotq
  · exact slotq
  · exact slotq
  rintro ex t1 L' ⟨rfl, ⟨rfl, hno⟩ | ⟨rfl, i, h4, hi⟩⟩
  · repeat (first | intro id | refine goq ?_)
    ((first | apply retO_r | apply retO_n); (focus (exact resq)))
    exact ⟨rfl, -1, rfl, .inl ⟨rfl, hno⟩⟩
  · repeat (first | intro id | refine goq ?_)
    ((first | apply retO_r | apply retO_n); (focus (exact resq)))
    exact ⟨rfl, i, rfl, hi⟩
theorem containsU_ok (hF : E.fns = fnsT) (hm : E.mode f_slices_ContainsFunc_uint64_uint64 = .iso false) (hmi : E.mode f_slices_IndexFunc_uint64_uint64 = .iso false) {g : FuncId} {args cv : List AVal} {v : AVal} {l : List Int} {p : Int → Bool} (hw : ViewsO L args [v, .fn (.func g) [] cv]) (hb : bareAll cv = true) (hv : SlU v l) (hlt : l.length < 2 ^ 62)
    (hc : ∀ j, j < l.length → CallO E g ([au (l.getD j 0)] ++ cv) [] fun r L' => r = abool (p (l.getD j 0)) ∧ L' = []) :
    CallO E f_slices_ContainsFunc_uint64_uint64 args L fun r L' => r = abool (l.any p) ∧ L' = L := by
  have hv0 := hv
  unfold SlU at hv
  have hv1 := RowA.isOne hv
  refine callO_iso0 (R := fun r => r = abool (l.any p)) hm (fns_of hF n_slices_ContainsFunc_uint64_uint64) hw ?_
  refine bodyO_of (Nat.le_of_ble_eq_true rfl) ?_; generalize ht : argSlots _ 0 .nil = t; have h0 : t.get 0 = some _ := (by rw [← ht]; rfl); have h1 : t.get 1 = some _ := (by rw [← ht]; rfl); clear ht
  repeat (first | intro id | refine goq ?_)
  refine gok ?_
  refine (indexU_ok hF hmi (vs_bare (bare_SlU hv0) (vs_bare (by simp [AVal.bare, bareAll, hb]) vs_nil)) hv0 hlt hc).mono ?_
  rintro r L' ⟨⟨i, rfl, ⟨rfl, hno⟩ | ⟨k, rfl, hk, hp, -⟩⟩, rfl⟩
  · have e : l.any p = false := by
      rw [List.any_eq_false]
      intro x hx
      obtain ⟨j, hj, rfl⟩ := List.getElem_of_mem hx
      have := hno j hj
      simpa [hj] using this
    rw [e]
    repeat (first | intro id | refine goq ?_)
    ((first | apply retO_r | apply retO_n); (focus (exact resq)))
    exact ⟨rfl, rfl⟩
  · have e : l.any p = true := by
      rw [List.any_eq_true]
      exact ⟨l.getD k 0, by simp [hk], hp⟩
    rw [e]
    repeat (first | intro id | refine goq ?_)
    ((first | apply retO_r | apply retO_n); (focus (exact resq)))
    exact ⟨rfl, rfl⟩
end Go.Proofs.YtmflheoafeenfaaGreat
namespace Go.Proofs.YtmflheoafeenfaaGreat
open Go.Am
set_option maxRecDepth 4000
set_option maxHeartbeats 8000000
variable {E : Env} {L : Hp}
def cxD (x y : Nat) : OpD := ⟨1, 11, [(x : Int), (y : Int)], 0, -1, 0⟩
theorem Synth2_open (hF : E.fns = fnsT) (hm : E.mode f_rewrite_Synth_2 = .open_) (hst : still E c_rewrite_Synth_2_r0 = true) {l : List Int} {x y : Nat} (hx : x < l.length) (hy : y < l.length) {i5 il i6 : Nat} {cap : Option Nat} {q b : Int} {a : AVal} {cs : List AVal} {os : List OpD} {B H : Hp} (hb : BufO 6 a cs os.length B) (ho : OpsB cs os H) (hlen : os.length ≤ 100000) (hl : l.length ≤ 64) :
    CallO E f_rewrite_Synth_2 ([aint x, aint y] ++ [.ptr i5 0, .ptr i6 0]) ((i5, [.sl il 0 l.length 1 cap]) :: (il, l.map au) :: (i6, [aint q, aint b, a]) :: (B ++ (H ++ L))) fun r L' => ∃ a' cs' B' H', r = .tup [] ∧ BufO 6 a' cs' (os.length + 1) B' ∧ OpsB cs' (os ++ [cxD x y]) H' ∧ L' = (i5, [.sl il 0 l.length 1 cap]) :: (il, (l.set y (xorV (gU l y) (gU l x))).map au) :: (i6, [aint q, aint b, a']) :: (B' ++ (H' ++ L)) := by
  refine CallO.to (callO_open hm (fns_of hF n_rewrite_Synth_2) ?_)
  have ha1 := hb.isOne
  have hgx := getAu (l := l) hx
  have hgy := getAu (l := l) hy
  have hll : (l.map au).length = l.length := by simp
  have hset : (l.map au).set y (au (xorV (gU l y) (gU l x))) = (l.set y (xorV (gU l y) (gU l x))).map au := by simp
  refine bodyO_of (Nat.le_of_ble_eq_true rfl) ?_; generalize ht : argSlots _ 0 .nil = t; have h0 : t.get 0 = some _ := (by rw [← ht]; rfl); have h1 : t.get 1 = some _ := (by rw [← ht]; rfl); have h2 : t.get 2 = some _ := (by rw [← ht]; rfl); have h3 : t.get 3 = some _ := (by rw [← ht]; rfl); clear ht
  repeat (first | intro id | refine goq ?_)
  rename_i ib im
  have hu : OwnI (.sl ib 0 2 1 (some 2)) (cxD x y).qs [(ib, [aint (x : Int), aint (y : Int)])] := .inr ⟨ib, some 2, rfl, rfl⟩
  have hb2 := hb.pushed (id := id) (nw := opCells (.sl ib 0 2 1 (some 2)) (cxD x y)) rfl rfl
  have ho2 := ho.snoc (o := cxD x y) hu (by simp [cxD])
  ((first | apply retO_r | apply retO_n); (focus (exact resq)))
  refine ⟨_, ?_, _, _, _, _, rfl, hb2, ho2, rfl⟩
  rw [← hset]
  simp only [List.append_assoc]
  exact subq
/-! What Synth does, plainly -/
structure SynS where
  l : List Int
  ps : List (Nat × Nat)
def addS (s : SynS) (x y : Nat) : SynS := ⟨s.l.set y (xorV (gU s.l y) (gU s.l x)), s.ps ++ [(x, y)]⟩
/-- The first from 'k' on that has the bit; 'n' where none has. -/
def seekS (l : List Int) (n k : Nat) : Nat → Nat → Nat
  | 0, r => r
  | d + 1, r => if r < n ∧ bitB (gU l r) k = false then seekS l n k d (r + 1) else r
def rowS (k : Nat) (s : SynS) (i : Nat) : SynS := if i ≠ k ∧ bitB (gU s.l i) k = true then addS s k i else s
def colS (n : Nat) (s : SynS) (k : Nat) : Option SynS :=
  let r := seekS s.l n k n k
  if r = n then none
  else some ((List.range n).foldl (rowS k) (if r = k then s else addS s r k))
def synS (n : Nat) : Nat → Nat → SynS → Option SynS
  | 0, _, s => some s
  | d + 1, k, s => match colS n s k with
    | some s' => synS n d (k + 1) s'
    | none => none
def synOps (ps : List (Nat × Nat)) : List OpD := ps.map fun p => cxD p.1 p.2
def synAll (l : List Int) : Option (List (Nat × Nat)) :=
  if 64 < l.length ∨ l.any (fun r => overB r l.length) = true then none
  else (synS l.length l.length 0 ⟨l, []⟩).map SynS.ps
end Go.Proofs.YtmflheoafeenfaaGreat
