/- Steps from a place, by a queue. -/
import Derived.Test.YtfaphhcloanhnaaRtC1
import Derived.Test.YtfaphhcloanhnaaRtDist
set_option linter.unusedSimpArgs false
set_option linter.unusedVariables false
namespace Go.Proofs.Ytfaphhcloanhnaa
open Go.Am Go.Dist
set_option maxRecDepth 4000
set_option maxHeartbeats 4000000
variable {E : Env} {L : Hp}
theorem steps_l0 {N io : Nat} (hN : N ≤ 64) : ∀ (d k : Nat) (t : Tr AVal), d + k = N → t.get 5 = some (.sl io 0 N 1 (some N)) → t.get 14 = some (aint N) → t.get 15 = some (aint k) →
    WpO E (.loop c_route_steps_l0) t ((io, (fillI (-1) k N).map aint) :: L) (fun ex t' L' => ex = .exit 0 ∧ Keep [0, 1, 5] t t' ∧ L' = (io, (List.replicate N (-1)).map aint) :: L) := by
  intro d
  induction d with
  | zero =>
    intro k t hk h5 h14 h15
    obtain rfl : k = N := by omega
    refine wo_loop ?_
    repeat (first | intro id | refine goq ?_)
    exact ⟨rfl, by exact keepq, by rw [fillI_all]⟩
  | succ d ih =>
    intro k t hk h5 h14 h15
    have hl : (fillI (-1) k N).length = N := fillI_length (by omega)
    refine wo_loop ?_
    repeat (first | intro id | refine goq ?_)
    rw [fillI_set (by omega)]
    refine WpO.mono (ih (k + 1) _ ?_ ?_ ?_ ?_) ?_
    · omega
    · exact slotq
    · exact slotq
    · exact slotq
    · rintro ex t' L' ⟨e1, e2, e3⟩
      exact ⟨e1, Keep.trans (by exact keepq) e2, e3⟩

theorem ub_push {N h p : Nat} {r : List Int} (hl : r.length = N) (hp : p < N) (hn : r.getD p 0 < 0) (hh : h < N) (h0 : 0 ≤ r.getD h 0) (hub : ∀ v, v < N → r.getD v 0 + negs r ≤ N) : ∀ v, v < N → (r.set p (r.getD h 0 + 1)).getD v 0 + negs (r.set p (r.getD h 0 + 1)) ≤ N := by
  intro v hv
  have e := negs_set (x := r.getD h 0 + 1) (by omega : p < r.length) hn (by omega)
  have h1 := hub v hv
  have h2 := hub h hh
  rw [getD_set]
  split <;> omega

theorem steps_l1 {N io src h : Nat} {adj : Nat → Nat → Prop} {row tl : List Nat} {u : AVal} (hN : N ≤ 64) (hu : SlI u (inat row)) (hadj : ∀ b, b ∈ row → b < N ∧ adj h b) (hlt : row.length < 2 ^ 62) :
    ∀ (d k : Nat) (t : Tr AVal) (r : List Int) (new : List Nat) (iw off : Nat) (cap : Option Nat) (cs : List AVal), d + k = row.length → t.get 5 = some (.sl io 0 N 1 (some N)) → t.get 7 = some (.sl iw off (tl.length + 1 + new.length) 1 cap) → t.get 37 = some u → t.get 38 = some (aint row.length) → t.get 39 = some (aint k) →
    seg cs off ((tl.length + 1 + new.length) * 1) = some ((inat (h :: tl ++ new)).map aint) → QMid N adj src h tl r new (fun b => b ∈ row.take k) → (tl.length + 1 + new.length) + negs r ≤ 65 → (∀ v, v < N → r.getD v 0 + negs r ≤ N) →
    WpO E (.loop c_route_steps_l1) t ((io, r.map aint) :: (iw, cs) :: L) (fun ex t' L' => ex = .exit 4 ∧ Keep [0, 5] t t' ∧ ∃ r' new' iw' off' cap' cs', t'.get 7 = some (.sl iw' off' (tl.length + 1 + new'.length) 1 cap') ∧ seg cs' off' ((tl.length + 1 + new'.length) * 1) = some ((inat (h :: tl ++ new')).map aint) ∧
      L' = (io, r'.map aint) :: (iw', cs') :: L ∧ QMid N adj src h tl r' new' (fun b => b ∈ row) ∧ new'.length + negs r' = new.length + negs r ∧ ∀ v, v < N → r'.getD v 0 + negs r' ≤ N) := by
  intro d
  induction d with
  | zero =>
    intro k t r new iw off cap cs hk h5 h7 h37 h38 h39 hs hq hb hub
    refine wo_loop ?_
    repeat (first | intro id | refine goq ?_)
    refine ⟨rfl, by exact keepq, r, new, iw, off, cap, cs, by exact slotq, hs, rfl, ?_, rfl, hub⟩
    rw [List.take_of_length_le (by omega)] at hq
    exact hq
  | succ d ih =>
    intro k t0 r new iw off cap cs hk h5 h7 h37 h38 h39 hs hq hb hub
    have hkr : k < row.length := by omega
    obtain ⟨p, hp⟩ : ∃ p, p = row.getD k 0 := ⟨_, rfl⟩
    have hmem : p ∈ row := by rw [hp, List.getD_eq_getElem?_getD, List.getElem?_eq_getElem hkr]; exact List.getElem_mem hkr
    have htake : ∀ b, b ∈ row.take (k + 1) ↔ b ∈ row.take k ∨ b = p := by
      intro b
      rw [List.take_succ_eq_append_getElem hkr, List.mem_append, List.mem_singleton, hp, List.getD_eq_getElem?_getD, List.getElem?_eq_getElem hkr]
      rfl
    obtain ⟨hpN, hpa⟩ := hadj p hmem
    have hh := hq.wait h (by simp)
    have hrl := hq.len
    have hw0 : cs[off + 0]? = some (aint ((h : Nat) : Int)) := by rw [seg_get hs (by omega)]; rfl
    have hlr := inat_length row
    have hubh := hub h hh.1
    refine wo_loop ?_
    repeat (first | intro id | refine goq ?_)
    rw [← hp]
    ((first | apply genO7 (t0 := t0) (js := [0, 5]) 5 7 9 37 38 39 47 | apply genW7 (t0 := t0) (js := [0, 5]) 5 7 9 37 38 39 47); (focus exact keepq); (focus exact slotq); (focus exact slotq); (focus exact slotq); (focus exact slotq); (focus exact slotq); (focus exact slotq); (focus exact slotq); intro t gK g5 g7 g9 g37 g38 g39 g47)
    refine wo_cond_if (by exact slotq) (fun hc => ?_) (fun hc => ?_) <;> (try simp only [decide_eq_true_eq, decide_eq_false_iff_not, ne_eq, Decidable.not_not] at hc)
    · have hneg := negs_set (x := r.getD h 0 + 1) (by omega : p < r.length) hc (by omega)
      repeat (first | intro id | refine goq ?_)
      have hcell : (inat (h :: tl ++ new)).map aint ++ [aint p] = (inat (h :: tl ++ (new ++ [p]))).map aint := by
        rw [← List.append_assoc, inat_app _ [p], List.map_append]
        rfl
      have hlen : ((inat (h :: tl ++ (new ++ [p]))).map aint).length = tl.length + 1 + (new ++ [p]).length := by simp [inat]; omega
      rw [hcell]
      refine WpO.weak (WpO.mono (ih (k + 1) _ (r.set p (r.getD h 0 + 1)) (new ++ [p]) id 0 none ((inat (h :: tl ++ (new ++ [p]))).map aint) ?_ ?_ ?_ ?_ ?_ ?_ ?_ ?_ ?_ ?_) ?_) ?_
      · omega
      · exact slotq
      · rw [List.length_append]; exact slotq
      · exact slotq
      · exact slotq
      · exact slotq
      · rw [Nat.mul_one]; exact seg_full hlen
      · have := hq.push hpN hpa hc
        simp only [htake]
        exact this
      · rw [List.length_append]; simp only [List.length_singleton]; omega
      · exact ub_push hrl hpN hc hh.1 hh.2 hub
      · rintro ex t' L' ⟨e1, e2, r', new', iw', off', cap', cs', e3, e4, e5, e6, e7, e8⟩
        refine ⟨e1, Keep.trans (by exact keepq) e2, r', new', iw', off', cap', cs', e3, e4, e5, e6, ?_, e8⟩
        rw [List.length_append] at e7
        simp only [List.length_singleton] at e7
        omega
      · exact subq
    · repeat (first | intro id | refine goq ?_)
      refine WpO.mono (ih (k + 1) _ r new iw off cap cs ?_ ?_ ?_ ?_ ?_ ?_ hs ?_ hb hub) ?_
      · omega
      · exact slotq
      · exact slotq
      · exact slotq
      · exact slotq
      · exact slotq
      · have := hq.old (p := p) (by omega)
        simp only [htake]
        exact this
      · rintro ex t' L' ⟨e1, e2, e3⟩
        exact ⟨e1, Keep.trans (by exact keepq) e2, e3⟩

theorem steps_l2 {N io src : Nat} {adj : Nat → Nat → Prop} {nbs : List (List Nat)} {us : List AVal} {vn : AVal} (hN : N ≤ 64) (hvn : RowA vn us N) (hus : us.length = N) (hrow : ∀ j, j < N → ∃ u, us[j]? = some u ∧ SlI u (inat (nbs.getD j []))) (hadj : ∀ a, a < N → ∀ b, b ∈ nbs.getD a [] ↔ b < N ∧ adj a b) (hlen : ∀ a, (nbs.getD a []).length < 2 ^ 62) :
    ∀ (d : Nat) (t : Tr AVal) (r : List Int) (w : List Nat) (iw off : Nat) (cap : Option Nat) (cs : List AVal), w.length + negs r = d → d ≤ 65 → t.get 0 = some vn → t.get 5 = some (.sl io 0 N 1 (some N)) → t.get 7 = some (.sl iw off w.length 1 cap) →
    seg cs off (w.length * 1) = some ((inat w).map aint) → QInv N adj src r w → (∀ v, v < N → r.getD v 0 + negs r ≤ N) →
    WpO E (.loop c_route_steps_l2) t ((io, r.map aint) :: (iw, cs) :: L) (fun ex t' L' => ex = .exit 2 ∧ t'.get 5 = some (.sl io 0 N 1 (some N)) ∧ ∃ r' iw' cs', L' = (io, r'.map aint) :: (iw', cs') :: L ∧ IsDist N adj src r') := by
  intro d
  induction d with
  | zero =>
    intro t r w iw off cap cs hd hd2 h0 h5 h7 hs hq hub
    have hw : w = [] := List.length_eq_zero_iff.1 (by omega)
    subst hw
    refine wo_loop ?_
    repeat (first | intro id | refine goq ?_)
    exact ⟨rfl, by exact slotq, r, iw, cs, rfl, hq.end_⟩
  | succ d ih =>
    intro t r w iw off cap cs hd hd2 h0 h5 h7 hs hq hub
    cases w with
    | nil =>
      refine wo_loop ?_
      repeat (first | intro id | refine goq ?_)
      exact ⟨rfl, by exact slotq, r, iw, cs, rfl, hq.end_⟩
    | cons h tl =>
      simp only [List.length_cons] at h7 hs hd
      have hh := hq.wait h (by simp)
      obtain ⟨u, hu1, hu2⟩ := hrow h hh.1
      have hw0 : cs[off + 0]? = some (aint ((h : Nat) : Int)) := by rw [seg_get hs (by omega)]; rfl
      have hlr := inat_length (nbs.getD h [])
      refine wo_loop ?_
      repeat (first | intro id | refine goq ?_)
      refine WpO.mono (steps_l1 (src := src) (h := h) (adj := adj) (row := nbs.getD h []) (tl := tl) hN hu2 (fun b hb => (hadj h hh.1 b).1 hb) (hlen h) (nbs.getD h []).length 0 _ r [] iw off cap cs (by omega) ?_ ?_ ?_ ?_ ?_ ?_ ?_ ?_ hub) ?_
      · exact slotq
      · exact slotq
      · exact slotq
      · rw [← hlr]; exact slotq
      · exact slotq
      · rw [List.append_nil]; exact hs
      · simp only [List.take_zero, List.not_mem_nil]; exact hq.enter
      · simp only [List.length_nil]; omega
      rintro ex t1 L' ⟨rfl, hK, r', new', iw', off', cap', cs', g7, hs', rfl, hq', hneg, hub'⟩
      have g0 : t1.get 0 = some vn := (hK.ex 0 rfl).trans (by exact slotq)
      have g5 : t1.get 5 = some (.sl io 0 N 1 (some N)) := (hK.ex 5 rfl).trans (by exact slotq)
      repeat (first | intro id | refine goq ?_)
      have hq2 := hq'.leave fun b hb hab => (hadj h hh.1 b).2 ⟨hb, hab⟩
      simp only [List.length_nil] at hneg
      refine ih _ r' (tl ++ new') iw' (off' + 1) (cap'.map (· - 1)) cs' ?_ ?_ ?_ ?_ ?_ ?_ hq2 hub'
      · rw [List.length_append]; omega
      · omega
      · exact slotq
      · exact slotq
      · rw [List.length_append, show tl.length + new'.length = tl.length + 1 + new'.length - 1 by omega]; exact slotq
      · rw [Nat.mul_one] at hs' ⊢
        rw [List.length_append]
        rw [show tl.length + 1 + new'.length = tl.length + new'.length + 1 by omega] at hs'
        exact seg_tail hs'

theorem steps_body {N src : Nat} {adj : Nat → Nat → Prop} {nbs : List (List Nat)} {vn : AVal} (hN : N ≤ 64) (hsrc : src < N) (hl : nbs.length = N) (hvn : SlS vn (nbs.map inat)) (hadj : ∀ a, a < N → ∀ b, b ∈ nbs.getD a [] ↔ b < N ∧ adj a b) (hlen : ∀ a, (nbs.getD a []).length < 2 ^ 62) :
    BodyO E c_route_steps [vn, aint src] L fun v L' => ∃ io r iw cs, v = .sl io 0 N 1 (some N) ∧ IsDist N adj src r ∧ L' = (io, r.map aint) :: (iw, cs) :: L := by
  obtain ⟨us, r1, r2, h3⟩ := hvn.row
  simp only [List.length_map, hl] at r1 r2 h3
  have h3' : ∀ j, j < N → ∃ u, us[j]? = some u ∧ SlI u (inat (nbs.getD j [])) := fun j hj => by
    obtain ⟨u, e1, e2⟩ := h3 j hj
    refine ⟨u, e1, ?_⟩
    have : (nbs.map inat).getD j [] = inat (nbs.getD j []) := by simp [hl, hj]
    rwa [this] at e2
  refine bodyO_of (Nat.le_of_ble_eq_true rfl) ?_; generalize ht : argSlots _ 0 .nil = t; have h0 : t.get 0 = some _ := (by rw [← ht]; rfl); have h1 : t.get 1 = some _ := (by rw [← ht]; rfl); clear ht
  repeat (first | intro id | refine goq ?_)
  rw [zeros_ints, ← fillI_zero (-1)]
  refine WpO.mono (steps_l0 hN N 0 _ (by omega) ?_ ?_ ?_) ?_
  · exact slotq
  · exact slotq
  · exact slotq
  rintro ex t1 L' ⟨rfl, hK, rfl⟩
  have k0 : t1.get 0 = some vn := (hK.ex 0 rfl).trans (by exact slotq)
  have k1 : t1.get 1 = some (aint src) := (hK.ex 1 rfl).trans (by exact slotq)
  have k5 : t1.get 5 = some (.sl id 0 N 1 (some N)) := (hK.ex 5 rfl).trans (by exact slotq)
  clear hK h0 h1
  repeat (first | intro id | refine goq ?_)
  rename_i io
  have hst : (List.replicate N (-1)).set src 0 = Dist.start N src := rfl
  rw [hst]
  have hpre := start_pre (adj := adj) hsrc
  have hneg : negs (Dist.start N src) ≤ N := by
    have := List.length_filter_le (fun x => decide (x < 0)) (Dist.start N src)
    rw [hpre.len] at this
    exact this
  refine WpO.weak (WpO.mono (steps_l2 (src := src) (adj := adj) hN r1 r2 h3' hadj hlen (1 + negs (Dist.start N src)) _ (Dist.start N src) [src] id 0 (some 1) [aint src] rfl ?_ ?_ ?_ ?_ rfl (QInv.start hsrc) ?_) ?_) (Sub.cons Rem.one.next (Sub.cons Rem.one (Sub.refl _)))
  · omega
  · exact slotq
  · exact slotq
  · exact slotq
  · intro v hv
    have := hpre.hi v hv
    omega
  rintro ex t2 L' ⟨rfl, g5, r', iw', cs', rfl, hd⟩
  repeat (first | intro id | refine goq ?_)
  ((first | apply retO_r | apply retO_n); (focus (exact resq)))
  exact ⟨io, r', iw', cs', rfl, hd, rfl⟩

/-- What it tells, laid as a row. -/
theorem steps_ok (hF : E.fns = fnsT) (hm : E.mode f_route_steps = .iso true) {N src : Nat} {adj : Nat → Nat → Prop} {nbs : List (List Nat)} {vn : AVal} (hN : N ≤ 64) (hsrc : src < N) (hl : nbs.length = N) (hvn : SlS vn (nbs.map inat)) (hadj : ∀ a, a < N → ∀ b, b ∈ nbs.getD a [] ↔ b < N ∧ adj a b) (hlen : ∀ a, (nbs.getD a []).length < 2 ^ 62) :
    CallO E f_route_steps [vn, aint src] L fun v L' => (∃ r, SlI v r ∧ IsDist N adj src r) ∧ L' = L := by
  refine callO_iso1 (R := fun v => ∃ r, SlI v r ∧ IsDist N adj src r) hm (fns_of hF n_route_steps) ?_ ((steps_body hN hsrc hl hvn hadj hlen).mono ?_)
  · simp only [List.all_cons, List.all_nil, hvn.bare]; rfl
  · rintro v L' ⟨io, r, iw, cs, rfl, hd, rfl⟩
    have hl := hd.len
    exact ⟨.rs (r.map aint) N (some N), vo_sl .here (by rw [Nat.mul_one]; exact seg_full (by simp [hl])) (vl_sc (sc_ints r)), r, .inr ⟨some N, by rw [hl]⟩, hd⟩
theorem steps_open (hF : E.fns = fnsT) (hm : E.mode f_route_steps = .open_) {N src : Nat} {adj : Nat → Nat → Prop} {nbs : List (List Nat)} {vn : AVal} (hN : N ≤ 64) (hsrc : src < N) (hl : nbs.length = N) (hvn : SlS vn (nbs.map inat)) (hadj : ∀ a, a < N → ∀ b, b ∈ nbs.getD a [] ↔ b < N ∧ adj a b) (hlen : ∀ a, (nbs.getD a []).length < 2 ^ 62) :
    CallO E f_route_steps [vn, aint src] L fun v L' => ∃ io r, v = .sl io 0 N 1 (some N) ∧ IsDist N adj src r ∧ L' = (io, r.map aint) :: L := by
  refine CallO.to ((callO_open hm (fns_of hF n_route_steps) (steps_body hN hsrc hl hvn hadj hlen)).mono ?_)
  rintro v L' ⟨io, r, iw, cs, rfl, hd, rfl⟩
  exact ⟨(io, r.map aint) :: L, Sub.cons Rem.one (Sub.skip (Sub.refl _)), io, r, rfl, hd, rfl⟩
/-- What a value, its boxes laid as rows, is for a callee: whatever else lies beside. -/
def Seen (B : Hp) (v u : AVal) : Prop := ∀ M vs us, (∀ id c, In id c B → In id c M) → ViewsO M vs us → ViewsO M (v :: vs) (u :: us)
theorem Seen.bare {v : AVal} (h : v.bare = true) : Seen [] v v := fun M vs us _ hv => vs_bare h hv
/-- Steps from a place, however they are handed over. -/
def StepsC (E : Env) : Prop := ∀ (L : Hp) (N src : Nat) (adj : Nat → Nat → Prop) (nbs : List (List Nat)) (vn : AVal), N ≤ 64 → src < N → nbs.length = N → SlS vn (nbs.map inat) → (∀ a, a < N → ∀ b, b ∈ nbs.getD a [] ↔ b < N ∧ adj a b) → (∀ a, (nbs.getD a []).length < 2 ^ 62) →
  CallO E f_route_steps [vn, aint src] L fun v L' => ∃ r B u, IsDist N adj src r ∧ SlI u r ∧ L' = B ++ L ∧ Seen B v u
theorem stepsC_rows (hF : E.fns = fnsT) (hm : E.mode f_route_steps = .iso true) : StepsC E := fun L N src adj nbs vn h1 h2 h3 h4 h5 h6 => (steps_ok hF hm h1 h2 h3 h4 h5 h6).mono fun v L' ⟨⟨r, hr, hd⟩, e⟩ => ⟨r, [], v, hd, hr, e, Seen.bare (bare_SlI hr)⟩
theorem stepsC_open (hF : E.fns = fnsT) (hm : E.mode f_route_steps = .open_) : StepsC E := fun L N src adj nbs vn h1 h2 h3 h4 h5 h6 => (steps_open hF hm h1 h2 h3 h4 h5 h6).mono fun v L' ⟨io, r, e1, hd, e⟩ => by
  subst e1
  have hl := hd.len
  exact ⟨r, [(io, r.map aint)], .rs (r.map aint) N (some N), hd, .inr ⟨some N, by rw [hl]⟩, e, fun M vs us hM hv => vs_view rfl (vo_sl (hM _ _ .here) (by rw [Nat.mul_one]; exact seg_full (by simp [hl])) (vl_sc (sc_ints r))) hv⟩
end Go.Proofs.Ytfaphhcloanhnaa
