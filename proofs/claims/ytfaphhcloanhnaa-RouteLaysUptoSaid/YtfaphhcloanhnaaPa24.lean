/- Parts of the proof, joined by program: RtP1, RtP2, LaLF. -/
import Derived.Test.YtfaphhcloanhnaaPa23
import Derived.Test.YtfaphhcloanhnaaPa17
import Derived.Test.YtfaphhcloanhnaaPa18
set_option linter.unusedSimpArgs false
set_option linter.unusedVariables false
namespace Go.Proofs.Ytfaphhcloanhnaa
open Go.Am Go.Dist
set_option maxRecDepth 4000
set_option maxHeartbeats 4000000
variable {E : Env} {L : Hp}
theorem mem_lt {N : Nat} {ps : List (Nat × Nat)} (hps : ∀ k, k < ps.length → (ps.getD k (0, 0)).1 < N ∧ (ps.getD k (0, 0)).2 < N) : ∀ p ∈ ps, p.1 < N ∧ p.2 < N := by
  intro p hp
  obtain ⟨k, hk, e⟩ := List.getElem_of_mem hp
  have := hps k hk
  simpa [hk, e] using this
theorem far_loop {N : Nat} {ps : List (Nat × Nat)} {vn : AVal} (hF : E.fns = fnsT) (hms : E.mode f_route_steps = .open_) (hN : N ≤ 64) (hps : ∀ k, k < ps.length → (ps.getD k (0, 0)).1 < N ∧ (ps.getD k (0, 0)).2 < N) (hvn : SlS vn ((nbs N ps).map inat)) :
    ∀ (d k : Nat) (t : Tr AVal) (a : AVal) (cs : List AVal) (B H : Hp), d + k = N → t.get 0 = some vn → t.get 3 = some a → t.get 6 = some (aint N) → t.get 7 = some (aint k) → BufO 1 a cs k B → RowsO cs (dists N ps k) H →
    WpO E (.loop c_route_far_l0) t (B ++ (H ++ L)) (fun ex t' L' => ex = .exit 0 ∧ ∃ a' cs' B' H', t'.get 3 = some a' ∧ BufO 1 a' cs' N B' ∧ RowsO cs' (dists N ps N) H' ∧ L' = B' ++ (H' ++ L)) := by
  intro d
  induction d with
  | zero =>
    intro k t a cs B H hk h0 h3 h6 h7 hb hr
    obtain rfl : k = N := by omega
    refine wo_loop ?_
    repeat (first | intro id | refine goq ?_)
    exact ⟨rfl, a, cs, B, H, by exact slotq, hb, hr, rfl⟩
  | succ d ih =>
    intro k t a cs B H hk h0 h3 h6 h7 hb hr
    refine wo_loop ?_
    repeat (first | intro id | refine goq ?_)
    refine gok ?_
    refine (steps_open (src := k) (adj := Adj ps) hF hms hN (by omega) (nbs_length _ _) hvn (fun a ha b => by rw [nbs_getD ha]; exact nbl_mem) ?_).mono ?_
    · intro a
      by_cases ha : a < N
      · rw [nbs_getD ha]
        have := nbl_len N ps a
        omega
      · simp [nbs, ha]
    rintro v L' ⟨io, r, rfl, hd, rfl⟩
    have hrd : r = dist N ps k := hd.unique (dist_is (mem_lt hps) (by omega))
    subst hrd
    repeat (first | intro id | refine goq ?_)
    have hb' := hb.pushed (id := id) (nw := [.sl io 0 N 1 (some N)]) rfl rfl
    have hr' := hr.snoc (id := io) (cap := some N) (dist_len N ps k)
    rw [← dists_succ] at hr'
    refine WpO.weak (ih (k + 1) _ _ _ _ _ ?_ ?_ ?_ ?_ ?_ hb' hr') ?_
    · omega
    · exact slotq
    · exact slotq
    · exact slotq
    · exact slotq
    · rw [List.append_assoc]
      exact subq
/-- A slice of slices, in boxes. -/
structure FarO (N : Nat) (ps : List (Nat × Nat)) (v : AVal) (B : Hp) : Prop where
  ex : ∃ cs B1 H, BufO 1 v cs N B1 ∧ RowsO cs (dists N ps N) H ∧ B = B1 ++ H
end Go.Proofs.Ytfaphhcloanhnaa

/- A shortest path, by a function that is looked with. -/
namespace Go.Proofs.Ytfaphhcloanhnaa
open Go.Am Go.Dist
set_option maxRecDepth 4000
set_option maxHeartbeats 4000000
variable {E : Env} {L : Hp}
theorem vo_fn {k : Nat} {g : Fn} {a b a' b' : List AVal} (h1 : ViewL L k a a') (h2 : ViewL L k b b') : ViewO L (k + 1) (.fn g a b) (.fn g a' b') := ⟨fun m hm => by simp only [view, h1.ex m hm, h2.ex m hm]⟩
theorem vo_ptr {k id off : Nat} {cs us : List AVal} (hi : In id cs L) (ho : off ≤ cs.length) (h : ViewL L k (cs.drop off) us) : ViewO L (k + 1) (.ptr id off) (.ro us) := ⟨fun m hm => by simp only [view, hm.get hi, ho, if_true, h.ex m hm, Option.map_some]⟩
/-- Where p first holds. -/
structure IdxP (l : List Int) (p : Int → Bool) (i : Int) : Prop where
  lo : i = -1 ∨ 0 ≤ i
  no : i < 0 → ∀ j, j < l.length → p (l.getD j 0) = false
  yes : 0 ≤ i → i.toNat < l.length ∧ p (l.getD i.toNat 0) = true ∧ ∀ j, j < i.toNat → p (l.getD j 0) = false
theorem indexf_loop {g : FuncId} {cv : List AVal} {v : AVal} {l : List Int} {p : Int → Bool} (hv : SlI v l) (hlt : l.length < 2 ^ 62) (hc : ∀ j, j < l.length → CallO E g ([aint (l.getD j 0)] ++ cv) L fun r L' => r = abool (p (l.getD j 0)) ∧ L' = L) :
    ∀ (d k : Nat) (t : Tr AVal), d + k = l.length → t.get 0 = some v → t.get 1 = some (.fn (.func g) [] cv) → t.get 7 = some (aint l.length) → t.get 8 = some (aint k) → (∀ j, j < k → p (l.getD j 0) = false) →
    WpO E (.loop c_slices_IndexFunc_int_int_l0) t L (fun ex t' L' => L' = L ∧ ((ex = .exit 0 ∧ ∀ j, j < l.length → p (l.getD j 0) = false) ∨ (ex = .ret ∧ ∃ i, t'.get 4 = some (aint i) ∧ IdxP l p i))) := by
  intro d
  induction d with
  | zero =>
    intro k t hk h0 h1 h7 h8 hno
    refine wo_loop ?_
    repeat (first | intro id | refine goq ?_)
    exact ⟨rfl, .inl ⟨rfl, fun j hj => hno j (by omega)⟩⟩
  | succ d ih =>
    intro k t hk h0 h1 h7 h8 hno
    refine wo_loop ?_
    repeat (first | intro id | refine goq ?_)
    apply oo_cv
    focus exact wanted_none
    focus exact slotq
    focus (repeat (first | exact argAll_nil | (apply argAll_cons; (focus exact slotq))))
    refine (hc k (by omega)).mono ?_
    rintro r L' ⟨rfl, rfl⟩
    cases hp : p (l.getD k 0) with
    | true =>
      repeat (first | intro id | refine goq ?_)
      exact ⟨rfl, .inr ⟨rfl, k, by exact slotq, .inr (by omega), fun h => by omega, fun _ => ⟨by omega, hp, fun j hj => hno j (by omega)⟩⟩⟩
    | false =>
      repeat (first | intro id | refine goq ?_)
      refine ih (k + 1) _ ?_ ?_ ?_ ?_ ?_ ?_
      · omega
      · exact slotq
      · exact slotq
      · exact slotq
      · exact slotq
      · intro j hj
        by_cases e : j = k
        · subst e; exact hp
        · exact hno j (by omega)
theorem indexf_ok (hF : E.fns = fnsT) (hm : E.mode f_slices_IndexFunc_int_int = .iso false) {g : FuncId} {args cv : List AVal} {v : AVal} {l : List Int} {p : Int → Bool} (hw : ViewsO L args [v, .fn (.func g) [] cv]) (hv : SlI v l) (hlt : l.length < 2 ^ 62)
    (hc : ∀ j, j < l.length → CallO E g ([aint (l.getD j 0)] ++ cv) [] fun r L' => r = abool (p (l.getD j 0)) ∧ L' = []) :
    CallO E f_slices_IndexFunc_int_int args L fun r L' => (∃ i, r = aint i ∧ IdxP l p i) ∧ L' = L := by
  refine callO_iso0 (R := fun r => ∃ i, r = aint i ∧ IdxP l p i) hm (fns_of hF n_slices_IndexFunc_int_int) hw ?_
  refine bodyO_of (Nat.le_of_ble_eq_true rfl) ?_; generalize ht : argSlots _ 0 .nil = t; have h0 : t.get 0 = some _ := (by rw [← ht]; rfl); have h1 : t.get 1 = some _ := (by rw [← ht]; rfl); clear ht
  repeat (first | intro id | refine goq ?_)
  refine WpO.mono (indexf_loop (p := p) hv hlt hc l.length 0 _ (by omega) ?_ ?_ ?_ ?_ (fun j hj => by omega)) ?_
  · exact slotq
  · exact slotq
  · exact slotq
  · exact slotq
  rintro ex t1 L' ⟨rfl, ⟨rfl, hno⟩ | ⟨rfl, i, h4, hi⟩⟩
  · repeat (first | intro id | refine goq ?_)
    ((first | apply retO_r | apply retO_n); (focus (exact resq)))
    exact ⟨rfl, -1, rfl, .inl rfl, fun _ => hno, fun h => by omega⟩
  · repeat (first | intro id | refine goq ?_)
    ((first | apply retO_r | apply retO_n); (focus (exact resq)))
    exact ⟨rfl, i, rfl, hi⟩

/-- Steps from a to b. -/
def D (N : Nat) (ps : List (Nat × Nat)) (a b : Nat) : Int := (dist N ps a).getD b 0
theorem dists_getD {N : Nat} {ps : List (Nat × Nat)} {j : Nat} (h : j < N) : (dists N ps N).getD j [] = dist N ps j := by simp [dists, h]
theorem path1_ok (hF : E.fns = fnsT) (hm : E.mode f_route_path_1 = .iso false) (hst : still E c_route_path_1_r1 = true) {N : Nat} {ps : List (Nat × Nat)} {fv : AVal} {x a b : Nat} (hfv : SlS fv (dists N ps N)) (hx : x < N) (ha : a < N) (hb : b < N) (hbd : 0 ≤ D N ps a b ∧ D N ps a b ≤ N) (hN : N ≤ 64) :
    CallO E f_route_path_1 [aint x, .ro [fv], .ro [aint b], .ro [aint a]] L fun v L' => v = abool (decide (D N ps x b = D N ps a b - 1)) ∧ L' = L := by
  refine callO_iso0 hm (fns_of hF n_route_path_1) (vs_bare rfl (vs_bare (by simp only [AVal.bare, bareAll, hfv.bare]; rfl) (vs_bare rfl (vs_bare rfl vs_nil)))) ?_
  obtain ⟨us, r1, r2, r3⟩ := hfv.row
  rw [dists_length] at r1 r2 r3
  obtain ⟨ux, hx1, hx2⟩ := r3 x hx
  obtain ⟨ua, ha1, ha2⟩ := r3 a ha
  rw [dists_getD hx] at hx2
  rw [dists_getD ha] at ha2
  have hx1' : (us.drop (x * 1))[0]? = some ux := by simpa using hx1
  have ha1' : (us.drop (a * 1))[0]? = some ua := by simpa using ha1
  have lx := dist_len N ps x
  have la := dist_len N ps a
  unfold D at hbd ⊢
  refine bodyO_of (Nat.le_of_ble_eq_true rfl) ?_; generalize ht : argSlots _ 0 .nil = t; have h0 : t.get 0 = some _ := (by rw [← ht]; rfl); have h1 : t.get 1 = some _ := (by rw [← ht]; rfl); have h2 : t.get 2 = some _ := (by rw [← ht]; rfl); have h3 : t.get 3 = some _ := (by rw [← ht]; rfl); clear ht
  repeat (first | intro id | refine goq ?_)
  ((first | apply retO_r | apply retO_n); (focus (exact resq)))
  exact ⟨rfl, rfl⟩

/-- The neighbour that is gone to. -/
def nxt (N : Nat) (ps : List (Nat × Nat)) (b a : Nat) : Nat := ((nbl N ps a).find? fun k => decide (D N ps k b = D N ps a b - 1)).getD 0
def pathFrom (N : Nat) (ps : List (Nat × Nat)) (b : Nat) : Nat → Nat → List Nat
  | 0, _ => []
  | n + 1, a => nxt N ps b a :: pathFrom N ps b n (nxt N ps b a)
end Go.Proofs.Ytfaphhcloanhnaa

/- A shortest path, walked. -/
namespace Go.Proofs.Ytfaphhcloanhnaa
open Go.Am Go.Dist
set_option maxRecDepth 4000
set_option maxHeartbeats 4000000
variable {E : Env} {L : Hp}
theorem find_first (q : Nat → Bool) : ∀ (l : List Nat) (i : Nat), i < l.length → q (l.getD i 0) = true → (∀ j, j < i → q (l.getD j 0) = false) → l.find? q = some (l.getD i 0)
  | [], i, h, _, _ => by simp at h
  | x :: l, 0, h, h1, _ => by
    simp only [List.getD_cons_zero] at h1 ⊢
    rw [List.find?_cons, h1]
  | x :: l, i + 1, h, h1, h2 => by
    have h3 := h2 0 (by omega)
    simp only [List.getD_cons_zero] at h3
    rw [List.find?_cons, h3]
    simp only [List.getD_cons_succ] at h1 ⊢
    exact find_first q l i (by simpa using h) h1 fun j hj => by have := h2 (j + 1) (by omega); simpa using this
theorem inat_getD {l : List Nat} {j : Nat} (h : j < l.length) : (inat l).getD j 0 = ((l.getD j 0 : Nat) : Int) := by simp [inat, h]
theorem RowsO.seen {cs : List AVal} {ls : List (List Int)} {H : Hp} (h : RowsO cs ls H) : ∃ us, us.length = ls.length ∧ (∀ (j : Nat) u l, us[j]? = some u → ls[j]? = some l → SlI u l) ∧ ∀ (M : Hp) (k : Nat), (∀ id c, In id c H → In id c M) → ViewL M (k + 2) cs us := by
  induction h with
  | nil => exact ⟨[], rfl, fun j u l h => by simp at h, fun M k _ => vl_nil⟩
  | @snoc cs ls H id n cap l h hn ih =>
    obtain ⟨us, h2, h3, h1⟩ := ih
    refine ⟨us ++ [.rs (l.map aint) n cap], by simp [h2], fun j u l' hu hl => ?_, fun M k hM => ?_⟩
    · by_cases hj : j < us.length
      · rw [List.getElem?_append_left hj] at hu
        rw [List.getElem?_append_left (by omega)] at hl
        exact h3 j u l' hu hl
      · rw [List.getElem?_append_right (by omega)] at hu
        rw [List.getElem?_append_right (by omega)] at hl
        by_cases e : j = us.length
        · subst e
          rw [h2] at hl hu
          simp at hu hl
          subst hu hl hn
          exact .inr ⟨cap, rfl⟩
        · have : j - us.length = (j - us.length - 1) + 1 := by omega
          rw [this] at hu
          simp at hu
    · exact vl_app (h1 M k fun id c hi => hM id c hi.appl) (vl_cons (vo_sl (hM _ _ (In.app .here)) (by rw [Nat.mul_one]; exact seg_full (by simp [hn])) (vl_sc (sc_ints l))) vl_nil)
theorem FarO.seen {N : Nat} {ps : List (Nat × Nat)} {v : AVal} {B : Hp} (h : FarO N ps v B) : ∃ u, SlS u (dists N ps N) ∧ ∀ (M : Hp) (k : Nat), (∀ id c, In id c B → In id c M) → ViewO M (k + 3) v u := by
  obtain ⟨cs, B1, H, hb, hr, rfl⟩ := h.ex
  obtain ⟨us, e2, e3, e1⟩ := RowsO.seen hr
  rw [dists_length] at e2
  have hlen := hb.length
  rcases BufO.inv hb with ⟨rfl, h1, h2, rfl⟩ | ⟨id, rfl, rfl⟩
  · subst h2
    exact ⟨anil, ⟨[], .inl ⟨rfl, by simp [dists], rfl⟩, by simp [dists], fun j u l h => by simp at h⟩, fun M k _ => ⟨fun m hm => rfl⟩⟩
  · exact ⟨.rs us N none, ⟨us, .inr ⟨none, by rw [dists_length]⟩, by rw [dists_length]; exact e2, e3⟩, fun M k hM => vo_sl (hM _ _ (In.appl .here)) (seg_full hlen) (e1 M k fun _ _ h => hM _ _ (In.app h))⟩
/-- A map whose places hang together. -/
structure Good (N : Nat) (ps : List (Nat × Nat)) : Prop where
  hN : N ≤ 64
  lt : ∀ p ∈ ps, p.1 < N ∧ p.2 < N
  conn : ∀ a b, a < N → b < N → 0 ≤ D N ps a b ∧ D N ps a b < N
theorem Good.is {N : Nat} {ps : List (Nat × Nat)} (h : Good N ps) : ∀ a, a < N → IsDist N (Adj ps) a (dist N ps a) := fun a ha => dist_is h.lt ha
theorem Good.zero {N : Nat} {ps : List (Nat × Nat)} (h : Good N ps) {a b : Nat} (ha : a < N) (hb : b < N) : D N ps a b = 0 ↔ a = b := by
  constructor
  · intro e
    apply Classical.byContradiction
    intro hne
    have := (h.is a ha).pos hb (fun e => hne e.symm) (by unfold D at e; omega)
    unfold D at e
    omega
  · rintro rfl
    exact (h.is a ha).src0
theorem Good.nxt {N : Nat} {ps : List (Nat × Nat)} (h : Good N ps) {a b : Nat} (ha : a < N) (hb : b < N) (hne : a ≠ b) : nxt N ps b a ∈ nbl N ps a ∧ D N ps (nxt N ps b a) b = D N ps a b - 1 := by
  obtain ⟨k, hk, hadj, e⟩ := nearer adj_sym h.is ha hb hne (h.conn a b ha hb).1
  have hm : k ∈ nbl N ps a := nbl_mem.2 ⟨hk, hadj⟩
  have hs : ((nbl N ps a).find? fun k => decide (D N ps k b = D N ps a b - 1)).isSome = true := by
    rw [List.find?_isSome]
    exact ⟨k, hm, by simp only [decide_eq_true_eq]; exact e⟩
  obtain ⟨y, hy⟩ := Option.isSome_iff_exists.1 hs
  have h1 := List.mem_of_find?_eq_some hy
  have h2 := List.find?_some hy
  unfold Proofs.Ytfaphhcloanhnaa.nxt
  rw [hy]
  exact ⟨h1, by simpa using h2⟩

theorem path_loop (hF : E.fns = fnsT) (hmi : E.mode f_slices_IndexFunc_int_int = .iso false) (hmp : E.mode f_route_path_1 = .iso false) (hst3 : still E c_route_path_r3 = true) (hst1 : still E c_route_path_1_r1 = true) {N b i5 i6 i7 : Nat} {ps : List (Nat × Nat)} {nv w fv : AVal} (hG : Good N ps) (hnv : SlS nv ((nbs N ps).map inat)) (hb : b < N) (hw1 : w.one = true) (hfv : SlS fv (dists N ps N)) (hview : ∀ M : Hp, (∀ id c, In id c L → In id c M) → ViewO M 62 w fv) :
    ∀ (n a : Nat) (t : Tr AVal) (acc : List Nat) (iw : Nat) (cap : Option Nat), a < N → D N ps a b = n → acc.length + n ≤ 1000 → t.get 0 = some nv → t.get 5 = some (.ptr i5 0) → t.get 6 = some (.ptr i6 0) → t.get 7 = some (.ptr i7 0) → t.get 9 = some (.sl iw 0 acc.length 1 cap) →
    WpO E (.loop c_route_path_l0) t ((iw, (inat acc).map aint) :: (i7, [aint b]) :: (i6, [aint a]) :: (i5, [w]) :: L) (fun ex t' L' => ex = .exit 0 ∧ ∃ iw' cap', t'.get 9 = some (.sl iw' 0 (acc ++ pathFrom N ps b n a).length 1 cap') ∧ Am.Sub ((iw', (inat (acc ++ pathFrom N ps b n a)).map aint) :: L) L') := by
  intro n
  induction n with
  | zero =>
    intro a t acc iw cap ha hD hl h0 h5 h6 h7 h9
    have hab : a = b := (hG.zero ha hb).1 hD
    refine wo_loop ?_
    repeat (first | intro id | refine goq ?_)
    refine ⟨rfl, iw, cap, ?_, ?_⟩
    · simp only [pathFrom, List.append_nil]; exact slotq
    · simp only [pathFrom, List.append_nil]; exact subq
  | succ n ih =>
    intro a t0 acc iw cap ha hD hl h0 h5 h6 h7 h9
    have hab : a ≠ b := by rintro rfl; have := (hG.zero ha ha).2 rfl; omega
    obtain ⟨hx1, hx2⟩ := hG.nxt ha hb hab
    have hxN := (nbl_mem.1 hx1).1
    obtain ⟨us, r1, r2, r3⟩ := hnv.row
    rw [List.length_map, nbs_length] at r1 r2 r3
    obtain ⟨ua, ha1, ha2⟩ := r3 a ha
    have hnb : ((nbs N ps).map inat).getD a [] = inat (nbl N ps a) := by simp [nbs, ha]
    rw [hnb] at ha2
    have ha1' : (us.drop (a * 1))[0]? = some ua := by simpa using ha1
    have hll := inat_length (nbl N ps a)
    have hla := nbl_len N ps a
    have hN := hG.hN
    have hsg : seg ((inat acc).map aint) 0 (acc.length * 1) = some ((inat acc).map aint) := by rw [Nat.mul_one]; exact seg_full (by simp [inat])
    refine wo_loop ?_
    repeat (first | intro id | refine goq ?_)
    refine gok ?_
    refine (indexf_ok (g := f_route_path_1) (cv := [.ro [fv], .ro [aint b], .ro [aint a]]) (v := ua) (l := inat (nbl N ps a)) (p := fun x => decide (D N ps x.toNat b = D N ps a b - 1)) hF hmi ?_ ha2 (by omega) ?_).mono ?_
    · refine vs_bare (bare_SlI ha2) (vs_view rfl (vo_fn vl_nil (vl_cons (vo_ptr (by exact inq) (by simp) (vl_cons (hview _ ?_) vl_nil)) (vl_cons (vo_ptr (by exact inq) (by simp) (vl_cons vo_sc vl_nil)) (vl_cons (vo_ptr (by exact inq) (by simp) (vl_cons vo_sc vl_nil)) vl_nil)))) vs_nil)
      intro id c h
      exact .next (.next (.next (.next h)))
    · intro j hj
      rw [hll] at hj
      rw [inat_getD hj]
      have hm : (nbl N ps a).getD j 0 ∈ nbl N ps a := by rw [List.getD_eq_getElem?_getD, List.getElem?_eq_getElem hj]; exact List.getElem_mem hj
      have := hG.conn a b ha hb
      exact path1_ok hF hmp hst1 hfv (nbl_mem.1 hm).1 ha hb ⟨this.1, by omega⟩ hN
    rintro r L' ⟨⟨i, rfl, hi⟩, rfl⟩
    have hi0 : 0 ≤ i := by
      rcases hi.lo with e | e
      · obtain ⟨j, hj, e2⟩ := List.getElem_of_mem hx1
        have h3 := hi.no (by omega) j (by omega)
        have h4 := of_decide_eq_false h3
        rw [inat_getD hj, List.getD_eq_getElem?_getD, List.getElem?_eq_getElem hj, Option.getD_some, e2, Int.toNat_natCast] at h4
        exact absurd hx2 h4
      · exact e
    obtain ⟨q1, q2, q3⟩ := hi.yes hi0
    obtain ⟨j, rfl⟩ : ∃ j : Nat, i = j := ⟨i.toNat, by omega⟩
    rw [Int.toNat_natCast] at q1 q3
    rw [hll] at q1
    have q2' := of_decide_eq_true q2
    rw [Int.toNat_natCast, inat_getD q1, Int.toNat_natCast] at q2'
    have hnx : (nbl N ps a).getD j 0 = nxt N ps b a := by
      have := find_first (fun k => decide (D N ps k b = D N ps a b - 1)) (nbl N ps a) j q1 (decide_eq_true q2') fun k hk => by
        have h4 := of_decide_eq_false (q3 k hk)
        rw [inat_getD (by omega), Int.toNat_natCast] at h4
        exact decide_eq_false h4
      unfold nxt
      rw [this]
      rfl
    have hj1 : (((inat (nbl N ps a)).map aint).drop (j * 1))[0]? = some (aint ((nxt N ps b a : Nat) : Int)) := by rw [get_inat q1, hnx]
    repeat (first | intro id | refine goq ?_)
    have hcell : (inat acc).map aint ++ [aint ((nxt N ps b a : Nat) : Int)] = (inat (acc ++ [nxt N ps b a])).map aint := by
      rw [inat_app, List.map_append]; rfl
    rw [hnx, hcell]
    refine WpO.weak (WpO.mono (ih (nxt N ps b a) _ (acc ++ [nxt N ps b a]) id none hxN ?_ ?_ ?_ ?_ ?_ ?_ ?_) ?_) ?_
    rotate_left 7
    · rintro ex t' L' ⟨e1, iw', cap', e2, e3⟩
      rw [List.append_assoc] at e2 e3
      exact ⟨e1, iw', cap', e2, e3⟩
    · exact subq
    · rw [hx2]; omega
    · rw [List.length_append]; simp only [List.length_singleton]; omega
    · exact slotq
    · exact slotq
    · exact slotq
    · exact slotq
    · rw [List.length_append]; exact slotq
end Go.Proofs.Ytfaphhcloanhnaa

/- A shortest path; steps told: the program's faces. -/
namespace Go.Proofs.Ytfaphhcloanhnaa
open Go.Am Go.Dist
set_option maxRecDepth 4000
set_option maxHeartbeats 4000000
variable {E : Env} {L : Hp}
/-- The path from a to b. -/
def pathL (N : Nat) (ps : List (Nat × Nat)) (a b : Nat) : List Nat := a :: pathFrom N ps b (D N ps a b).toNat a
/-- The numbers of places are right. -/
def inR (N a b : Int) : Prop := 0 ≤ a ∧ a < N ∧ 0 ≤ b ∧ b < N
/-- What is told of a path. -/
structure PathR (N a b : Int) (ps : List (Int × Int)) (v : AVal) : Prop where
  ex : (¬ RightP N ps ∧ v = .tup [anil, aint 200]) ∨ (RightP N ps ∧ ¬ inR N a b ∧ v = .tup [anil, aint 2]) ∨ (RightP N ps ∧ inR N a b ∧ ∃ s, v = .tup [s, aint 0] ∧ SlI s (inat (pathL N.toNat (npairs ps) a.toNat b.toNat)))
theorem good_of {N : Nat} {ps : List (Int × Int)} (h : RightP N ps) : Good N (npairs ps) := by
  have hlt := mem_lt (npairs_lt h.ok)
  refine ⟨by have := h.n2; omega, hlt, fun a b ha hb => ⟨conn hlt (fun v hv => by have := h.all v (by rw [Int.toNat_natCast]; exact hv); rwa [Int.toNat_natCast] at this) ha hb, dist_lt hlt ha hb⟩⟩
end Go.Proofs.Ytfaphhcloanhnaa
namespace Go.Proofs.Ytfaphhcloanhnaa
open Go.Am Go.Dist
set_option maxRecDepth 4000
set_option maxHeartbeats 4000000
variable {E : Env} {L : Hp}
theorem find_filter {α : Type} (p q : α → Bool) (l : List α) : (l.filter p).find? q = l.find? fun a => p a && q a := by
  induction l with
  | nil => rfl
  | cons x l ih =>
    rw [List.filter_cons, List.find?_cons]
    cases hp : p x with
    | true => simp only [if_true, List.find?_cons, ih, Bool.true_and]
    | false => simp only [Bool.false_eq_true, if_false, ih, Bool.false_and]
theorem getD_range {N j : Nat} (h : j < N) : (List.range N).getD j 0 = j := by simp [h]
theorem nxt_least {N a b k : Nat} {ps : List (Nat × Nat)} (hG : Good N ps) (hne : ∀ p ∈ ps, p.1 ≠ p.2) (ha : a < N) (hk : k < N) (h1 : D N ps a k = 1) (h2 : D N ps k b = D N ps a b - 1) (hno : ∀ j, j < k → ¬ (D N ps a j = 1 ∧ D N ps j b = D N ps a b - 1)) : nxt N ps b a = k := by
  have hone : ∀ x, x < N → ((ps.contains (a, x) || ps.contains (x, a)) = true ↔ D N ps a x = 1) := by
    intro x hx
    have := one_iff (hG.is a ha) ha hx (fun hadj e => by
      subst e
      rcases hadj with h | h <;> exact hne _ h rfl)
    unfold D
    rw [this]
    unfold Adj
    simp
  unfold nxt nbl
  rw [find_filter]
  have := find_first (fun x => (ps.contains (a, x) || ps.contains (x, a)) && decide (D N ps x b = D N ps a b - 1)) (List.range N) k (by simpa using hk) (by
    rw [getD_range hk, (hone k hk).2 h1, decide_eq_true h2]; rfl) fun j hj => by
    rw [getD_range (by omega)]
    have h3 := hno j hj
    by_cases c : D N ps a j = 1
    · rw [decide_eq_false fun h => h3 ⟨c, h⟩, Bool.and_false]
    · cases hc : (ps.contains (a, j) || ps.contains (j, a)) with
      | false => rfl
      | true => exact absurd ((hone j (by omega)).1 hc) c
  rw [this, getD_range hk]
  rfl
theorem step_loop {N a b : Nat} {ps : List (Nat × Nat)} {dv : AVal} {us : List AVal} (hst : still E c_phasorref20_step_r3 = true) (hG : Good N ps) (hne : ∀ p ∈ ps, p.1 ≠ p.2) (ha : a < N) (hb : b < N) (hab : a ≠ b) (r1 : RowA dv us N) (r2 : us.length = N) (r3 : ∀ j, j < N → ∃ u, us[j]? = some u ∧ SlI u (dist N ps j)) :
    ∀ (d k : Nat) (t : Tr AVal), d + k = N → t.get 0 = some dv → t.get 1 = some (aint a) → t.get 2 = some (aint b) → t.get 7 = some (aint k) → (∀ j, j < k → ¬ (D N ps a j = 1 ∧ D N ps j b = D N ps a b - 1)) →
    WpO E (.loop c_phasorref20_step_l0) t L (fun ex t' L' => ex = .ret ∧ t'.get 6 = some (aint ((nxt N ps b a : Nat) : Int)) ∧ L' = L) := by
  intro d
  obtain ⟨ua, ha1, ha2⟩ := r3 a ha
  have ha1' : (us.drop (a * 1))[0]? = some ua := by simpa using ha1
  have la := dist_len N ps a
  have hN := hG.hN
  have hcn := hG.conn a b ha hb
  unfold D at hcn
  induction d with
  | zero =>
    intro k t hk h0 h1 h2 h7 hno
    obtain rfl : k = N := by omega
    obtain ⟨x, hx, hadj, e⟩ := nearer adj_sym hG.is ha hb hab (hG.conn a b ha hb).1
    refine absurd ⟨?_, e⟩ (hno x hx)
    exact (one_iff (hG.is a ha) ha hx (fun hadj e => by
      subst e
      rcases hadj with h | h <;> exact hne _ h rfl)).2 hadj
  | succ d ih =>
    intro k t0 hk h0 h1 h2 h7 hno
    have hkN : k < N := by omega
    obtain ⟨uk, hk1, hk2⟩ := r3 k hkN
    have hk1' : (us.drop (k * 1))[0]? = some uk := by simpa using hk1
    have lk := dist_len N ps k
    have next : ¬ (D N ps a k = 1 ∧ D N ps k b = D N ps a b - 1) → ∀ j, j < k + 1 → ¬ (D N ps a j = 1 ∧ D N ps j b = D N ps a b - 1) := fun h j hj => by
      by_cases e : j = k
      · subst e; exact h
      · exact hno j (by omega)
    refine wo_loop ?_
    repeat (first | intro id | refine goq ?_)
    (refine oo_guard (by exact slotq) (fun hc => ?_) (fun hc => ?_) <;> (try simp only [hc]) <;> (try simp only [decide_eq_true_eq, decide_eq_false_iff_not, ne_eq, Decidable.not_not] at hc))
    · repeat (first | intro id | refine goq ?_)
      refine wo_cond_if (by exact slotq) (fun hc => ?_) (fun hc => ?_) <;> (try simp only [decide_eq_true_eq, decide_eq_false_iff_not, ne_eq, Decidable.not_not] at hc)
      · repeat (first | intro id | refine goq ?_)
        refine ⟨rfl, ?_, rfl⟩
        rw [nxt_least (k := k) hG hne ha hkN (by unfold D; assumption) (by unfold D; exact hc) hno]
        exact slotq
      · repeat (first | intro id | refine goq ?_)
        refine ih (k + 1) _ (by omega) ?_ ?_ ?_ ?_ (next fun h => hc h.2)
        · exact slotq
        · exact slotq
        · exact slotq
        · exact slotq
    · have hcc := hc
      repeat (first | intro id | refine goq ?_)
      refine ih (k + 1) _ (by omega) ?_ ?_ ?_ ?_ (next fun h => hcc h.1)
      · exact slotq
      · exact slotq
      · exact slotq
      · exact slotq
theorem step_ok (hF : E.fns = fnsT) (hm : E.mode f_phasorref20_step = .iso false) {N a b : Nat} {ps : List (Nat × Nat)} {dv : AVal} (hG : Good N ps) (hne : ∀ p ∈ ps, p.1 ≠ p.2) (ha : a < N) (hb : b < N) (hab : a ≠ b) (hd : SlS dv (dists N ps N)) :
    CallO E f_phasorref20_step [dv, aint a, aint b] L fun v L' => v = aint ((nxt N ps b a : Nat) : Int) ∧ L' = L := by
  refine callO_iso0 hm (fns_of hF n_phasorref20_step) (vs_bare hd.bare (vs_bare rfl (vs_bare rfl vs_nil))) ?_
  obtain ⟨us, r1, r2, r3⟩ := hd.row
  rw [dists_length] at r1 r2 r3
  refine bodyO_of (Nat.le_of_ble_eq_true rfl) ?_; generalize ht : argSlots _ 0 .nil = t; have h0 : t.get 0 = some _ := (by rw [← ht]; rfl); have h1 : t.get 1 = some _ := (by rw [← ht]; rfl); have h2 : t.get 2 = some _ := (by rw [← ht]; rfl); clear ht
  repeat (first | intro id | refine goq ?_)
  refine WpO.mono (step_loop rfl hG hne ha hb hab r1 r2 (fun j hj => by obtain ⟨u, e1, e2⟩ := r3 j hj; rw [dists_getD hj] at e2; exact ⟨u, e1, e2⟩) N 0 _ (by omega) ?_ ?_ ?_ ?_ (fun j hj => by omega)) ?_
  · exact slotq
  · exact slotq
  · exact slotq
  · exact slotq
  rintro ex t1 L' ⟨rfl, h6, rfl⟩
  repeat (first | intro id | refine goq ?_)
  ((first | apply retO_r | apply retO_n); (focus (exact resq)))
  exact ⟨rfl, rfl⟩

theorem npairs_ne {N : Int} {ps : List (Int × Int)} (h : okAll N ps) : ∀ p ∈ npairs ps, p.1 ≠ p.2 := by
  intro p hp
  obtain ⟨q, hq, rfl⟩ := List.mem_map.1 hp
  obtain ⟨k, hk, e⟩ := List.getElem_of_mem hq
  have := h k hk
  simp only [List.getD_eq_getElem?_getD, List.getElem?_eq_getElem hk, Option.getD_some, e] at this
  unfold okP at this
  simp only
  omega
end Go.Proofs.Ytfaphhcloanhnaa

/- Steps between all places, told; what is told is written over. -/
namespace Go.Proofs.Ytfaphhcloanhnaa
open Go.Am Go.Dist
set_option maxRecDepth 4000
set_option maxHeartbeats 4000000
variable {E : Env} {L : Hp}
/-- One row out of many, and another in its place. -/
theorem RowsO.pick {cs : List AVal} {ls : List (List Int)} {H : Hp} (h : RowsO cs ls H) : ∀ j, j < ls.length → ∃ id cap A B, cs[j]? = some (.sl id 0 (ls.getD j []).length 1 cap) ∧ H = A ++ (id, (ls.getD j []).map aint) :: B ∧ ∀ l', l'.length = (ls.getD j []).length → RowsO cs (ls.set j l') (A ++ (id, l'.map aint) :: B) := by
  induction h with
  | nil => intro j hj; simp at hj
  | @snoc cs ls H id n cap l h hn ih =>
    intro j hj
    have hlen := (RowsO.one h).2
    by_cases e : j < ls.length
    · obtain ⟨id', cap', A, B, h1, h2, h3⟩ := ih j e
      have hg : (ls ++ [l]).getD j [] = ls.getD j [] := by simp [List.getElem?_append_left e]
      refine ⟨id', cap', A, B ++ [(id, l.map aint)], ?_, ?_, fun l' hl' => ?_⟩
      · rw [hg, List.getElem?_append_left (by omega)]; exact h1
      · rw [hg, h2, List.append_assoc, List.cons_append]
      · rw [hg] at hl'
        have := (h3 l' hl').snoc (id := id) (cap := cap) hn
        rw [List.set_append_left _ _ e]
        rw [List.append_assoc, List.cons_append] at this
        exact this
    · have e2 : j = ls.length := by rw [List.length_append] at hj; simp only [List.length_singleton] at hj; omega
      subst e2
      have hg : (ls ++ [l]).getD ls.length [] = l := by simp
      rw [hg]
      refine ⟨id, cap, H, [], ?_, rfl, fun l' hl' => ?_⟩
      · rw [List.getElem?_append_right (by omega)]; simp [hlen, hn]
      · rw [List.set_append_right _ _ (by omega), Nat.sub_self, List.set_cons_zero]
        exact h.snoc (hl'.trans hn)

end Go.Proofs.Ytfaphhcloanhnaa
namespace Go.Proofs.Ytfaphhcloanhnaa
open Go.Am Go.Dist
set_option maxRecDepth 4000
set_option maxHeartbeats 8000000
variable {E : Env} {L : Hp}
/-- An operation that does not fit. -/
def badB (N : Nat) (ps : List (Nat × Nat)) (o : OpD) : Bool := decide (o.kind = 1) && (decide (2 < o.qs.length) || (decide (o.qs.length = 2) && !decide (D N ps (o.qs.getD 0 0).toNat (o.qs.getD 1 0).toNat = 1)))
def FitsR (N : Int) (ps : List (Int × Int)) (c : CircD) (v : AVal) : Prop :=
  (¬ RightP N ps ∧ v = .tup [abool false, aint 200]) ∨ (RightP N ps ∧ ¬ CircOk c ∧ v = .tup [abool false, aint 80]) ∨
  (RightP N ps ∧ CircOk c ∧ ∃ x, v = .tup [abool x, aint 0] ∧ (x = true ↔ c.qubits ≤ N ∧ ∀ j, j < c.ops.length → badB N.toNat (npairs ps) (c.ops.getD j default) = false))
/-- Qubits of a gate of two. -/
theorem two_qs {n : Int} {l : List Int} (h : Qs n l) (hl : l.length = 2) : ∃ a b : Nat, l = [(a : Int), (b : Int)] ∧ (a : Int) < n ∧ (b : Int) < n ∧ a ≠ b := by
  match l, hl with
  | [x, y], _ =>
    have h0 := h 0 (by simp)
    have h1 := h 1 (by simp)
    unfold okAt at h0 h1
    simp only [List.getD_cons_zero, List.getD_cons_succ] at h0 h1
    have h2 := h1.2.2 0 (by omega)
    simp only [List.getD_cons_zero] at h2
    exact ⟨x.toNat, y.toNat, by rw [Int.toNat_of_nonneg (by omega), Int.toNat_of_nonneg (by omega)], by omega, by omega, by omega⟩
theorem vo_SlSn {k : Nat} {v : AVal} {ls : List (List Int)} (h : SlS v ls) : ViewO L (k + 1) v v := by
  have hb := h.bare
  obtain ⟨us, h1, -, -⟩ := h
  rcases h1 with ⟨rfl, -, -⟩ | ⟨cap, rfl⟩
  · exact ⟨fun m hm => rfl⟩
  · exact ⟨fun m hm => by simp only [Am.view, hb, if_true]⟩
theorem Fits1_ok (hF : E.fns = fnsT) (hm : E.mode f_route_Fits_1 = .iso false) (hmc : E.mode f_slices_Contains_int_int = .iso false) (hmi : E.mode f_slices_Index_int_int = .iso false) (hst : still E c_route_Fits_1_r3 = true)
    {N : Nat} {ps : List (Nat × Nat)} {nv q : AVal} {o : OpD} {n b : Int} (hG : Good N ps) (hne : ∀ p ∈ ps, p.1 ≠ p.2) (hnv : SlS nv ((nbs N ps).map inat)) (hq : SlI q o.qs) (hlt : o.qs.length < 2 ^ 62) (hok : OpOk o n b) (hn : n ≤ N) :
    CallO E f_route_Fits_1 [.agg (opCells q o), .ro [nv]] L fun r L' => r = abool (badB N ps o) ∧ L' = L := by
  refine callO_iso0 hm (fns_of hF n_route_Fits_1) (vs_bare ?_ (vs_bare ?_ vs_nil)) ?_
  · simp [opCells, AVal.bare, bareAll, aint, bare_SlI hq]
  · simp [AVal.bare, bareAll, hnv.bare]
  have hq1 := RowA.isOne hq
  have hbad : badB N ps o = (decide (o.kind = 1) && (decide (2 < o.qs.length) || (decide (o.qs.length = 2) && !decide (D N ps (o.qs.getD 0 0).toNat (o.qs.getD 1 0).toNat = 1)))) := rfl
  unfold opCells
  refine bodyO_of (Nat.le_of_ble_eq_true rfl) ?_; generalize ht : argSlots _ 0 .nil = t; have h0 : t.get 0 = some _ := (by rw [← ht]; rfl); have h1 : t.get 1 = some _ := (by rw [← ht]; rfl); clear ht
  by_cases c1 : o.kind = 1
  · have hg : arity o.gate ≠ 0 ∧ (o.qs.length : Int) = arity o.gate ∧ Qs n o.qs := by
      unfold OpOk at hok
      rcases hok with h | h | h | h
      · exact ⟨h.2.1, h.2.2.1, h.2.2.2.1⟩
      · omega
      · omega
      · omega
    have har : 1 ≤ arity o.gate := by
      have := hg.1
      unfold arity at this ⊢
      split at this <;> split <;> first | omega | (split <;> omega)
    rw [decide_eq_true c1, Bool.true_and] at hbad
    by_cases c2 : o.qs.length = 1
    · rw [decide_eq_false (by omega), decide_eq_false (by omega)] at hbad
      repeat (first | intro id | refine goq ?_)
      ((first | apply retO_r | apply retO_n); (focus (exact resq)))
      exact ⟨rfl, by rw [hbad]; rfl⟩
    by_cases c3 : 2 < o.qs.length
    · rw [decide_eq_true c3] at hbad
      repeat (first | intro id | refine goq ?_)
      ((first | apply retO_r | apply retO_n); (focus (exact resq)))
      exact ⟨rfl, by rw [hbad]; rfl⟩
    obtain ⟨x, y, hxy, hx, hy, hne2⟩ := two_qs hg.2.2 (by omega)
    rw [decide_eq_false c3, decide_eq_true (show o.qs.length = 2 by omega), Bool.false_or, Bool.true_and, hxy] at hbad
    simp only [List.getD_cons_zero, List.getD_cons_succ, Int.toNat_natCast] at hbad
    have g0 : o.qs.getD 0 0 = (x : Int) := by rw [hxy]; rfl
    have g1 : o.qs.getD 1 0 = (y : Int) := by rw [hxy]; rfl
    obtain ⟨us, r1, r2, r3⟩ := hnv.row
    rw [List.length_map, nbs_length] at r1 r2 r3
    obtain ⟨ux, hx1, hx2⟩ := r3 x (by omega)
    have hrow : ((nbs N ps).map inat).getD x [] = inat (nbl N ps x) := by
      simp only [List.getD_eq_getElem?_getD, List.getElem?_map]
      have : (nbs N ps)[x]? = some (nbl N ps x) := by simp [nbs, show x < N by omega]
      rw [this]
      rfl
    rw [hrow] at hx2
    have hx1' : (us.drop (x * 1))[0]? = some ux := by simpa using hx1
    have ux1 := RowA.isOne hx2
    have hxl : x < N := by omega
    have e0 := get_ints (l := o.qs) (k := 0) (by omega)
    have e1 := get_ints (l := o.qs) (k := 1) (by omega)
    rw [g0] at e0
    rw [g1] at e1
    repeat (first | intro id | refine goq ?_)
    rw [g0]
    repeat (first | intro id | refine goq ?_)
    refine gok ?_
    rw [g1]
    refine (contains_ok hF hmc hmi (vs_bare (bare_SlI hx2) (vs_bare rfl vs_nil)) hx2 (by rw [inat_length]; have := nbl_len N ps x; have := hG.hN; omega)).mono ?_
    rintro r L' ⟨rfl, rfl⟩
    repeat (first | intro id | refine goq ?_)
    ((first | apply retO_r | apply retO_n); (focus (exact resq)))
    have hmem : (y : Int) ∈ inat (nbl N ps x) ↔ D N ps x y = 1 := by
      have h1 : (y : Int) ∈ inat (nbl N ps x) ↔ y ∈ nbl N ps x := by
        unfold inat
        rw [List.mem_map]
        constructor
        · rintro ⟨z, hz, e⟩
          have : z = y := by omega
          subst this; exact hz
        · exact fun h => ⟨y, h, rfl⟩
      rw [h1, nbl_mem]
      unfold D
      rw [one_iff (hG.is x hxl) hxl (by omega : y < N) (fun hadj e => by
        subst e
        rcases hadj with h | h <;> exact hne _ h rfl)]
      exact ⟨fun h => h.2, fun h => ⟨by omega, h⟩⟩
    refine ⟨rfl, ?_⟩
    rw [hbad]
    by_cases hd : D N ps x y = 1
    · rw [decide_eq_true hd, decide_eq_true (hmem.2 hd)]; rfl
    · rw [decide_eq_false hd, decide_eq_false (fun h => hd (hmem.1 h))]; rfl
  · rw [decide_eq_false c1, Bool.false_and] at hbad
    repeat (first | intro id | refine goq ?_)
    ((first | apply retO_r | apply retO_n); (focus (exact resq)))
    exact ⟨rfl, by rw [hbad]; rfl⟩
theorem Fits_ok (hF : E.fns = fnsT) (hm : E.mode f_route_Fits = .iso false) (hm1 : E.mode f_route_Fits_1 = .iso false) (hmc : E.mode f_slices_Contains_int_int = .iso false) (hmi : E.mode f_slices_Index_int_int = .iso false) (hst : still E c_route_Fits_1_r3 = true)
    (hmC : E.mode f_route_Check = .iso false) (hmn : E.mode f_route_near = .iso true) (hms : E.mode f_slices_Sort_int_int = .known) (hk : E.known f_slices_Sort_int_int = knSort) (hmco : E.mode f_slices_Compact_int_int = .open_) (hsC : StepsC E)
    (hmk : E.mode f_circuit_Check = .iso false) (hmm : E.mode f_circuit_may = .iso false) (hmg : E.mode f_gate_Check = .iso false) (hma : E.mode f_gate_Arity = .iso false) (hmo : E.mode f_gate_of = .iso false) (hmt : E.mode f_gate_table = .iso false)
    (hmcf : E.mode f_slices_ContainsFunc_api_Op_api_Op = .iso false) (hmif : E.mode f_slices_IndexFunc_api_Op_api_Op = .iso false)
    {N : Int} {s v : AVal} {ps : List (Int × Int)} {c : CircD} (hs : SlP s ps) (hlt : ps.length ≤ 1000000) (hv : CircA v c) :
    CallO E f_route_Fits [v, .agg [aint N, s]] L fun r L' => FitsR N ps c r ∧ L' = L := by
  refine callO_iso0 (R := FitsR N ps c) hm (fns_of hF n_route_Fits) (vs_bare hv.bare (vs_bare (bare_MapA ⟨s, rfl, hs⟩) vs_nil)) ?_
  have hv0 := hv
  obtain ⟨so, rfl, hops⟩ := hv
  have hs1 := hs.isOne
  have hso1 : so.one = true := by obtain ⟨cs, hr, -, -⟩ := hops; exact RowA.isOne hr
  refine bodyO_of (Nat.le_of_ble_eq_true rfl) ?_; generalize ht : argSlots _ 0 .nil = t; have h0 : t.get 0 = some _ := (by rw [← ht]; rfl); have h1 : t.get 1 = some _ := (by rw [← ht]; rfl); clear ht
  repeat (first | intro id | refine goq ?_)
  refine gok ?_
  refine (Check_ok hF hmC hmn hms hk hmco hsC hmc hmi hs hlt).mono ?_
  rintro u L' ⟨⟨e, rfl, he, he2⟩, rfl⟩
  rcases he2 with rfl | rfl
  · have hR := he.1 rfl
    obtain ⟨M, rfl⟩ : ∃ k : Nat, N = k := ⟨N.toNat, by have := hR.n1; omega⟩
    have hG := good_of hR
    have hnp := npairs_length ps
    repeat (first | intro id | refine goq ?_)
    refine gok ?_
    refine (Check_okC hF hmk hmm hmg hma hmo hmt hmc hmi hv0).mono ?_
    rintro u L' ⟨⟨i, e, rfl, ⟨rfl, hC⟩ | ⟨rfl, hC⟩⟩, rfl⟩
    · repeat (first | intro id | refine goq ?_)
      refine gok ?_
      refine (near_ok hF hmn hms hk hmco hG.hN (npairs_lt hR.ok) (SlP_N hR.ok hs) (by omega)).mono ?_
      rintro nv L' ⟨hn, rfl⟩
      have hnv1 : nv.one = true := by obtain ⟨us, h1, -, -⟩ := hn; exact RowA.isOne h1
      have hq0 := hC.q0
      by_cases cq : c.qubits ≤ M
      · repeat (first | intro id | refine goq ?_)
        rename_i i1 i2
        refine gok ?_
        refine (containsOp_ok (v := so) (cv := [.ro [nv]]) (p := badB M (npairs ps)) hF hmcf hmif (vs_bare hops.bare (vs_view rfl (vo_fn vl_nil (vl_cons (vo_ptr .here (by simp) (vl_cons (vo_SlSn hn) vl_nil)) vl_nil)) vs_nil)) (by simp [bareAll, AVal.bare, hn.bare]) hops ?_).mono ?_
        · intro j q hj hq hqb
          exact Fits1_ok hF hm1 hmc hmi hst hG (npairs_ne hR.ok) hn hq hqb (hC.ok j hj) cq
        rintro r L' ⟨⟨x, rfl, hx⟩, rfl⟩
        repeat (first | intro id | refine goq ?_)
        ((first | apply retO_r | apply retO_n); (focus (exact resq)))
        refine ⟨rfl, .inr (.inr ⟨hR, hC, !x, rfl, ?_⟩)⟩
        rw [Int.toNat_natCast]
        cases x with
        | true =>
          simp only [Bool.not_true, Bool.false_eq_true, false_iff]
          rintro ⟨-, h⟩
          obtain ⟨j, hj, hp⟩ := hx.1 rfl
          rw [h j hj] at hp
          cases hp
        | false =>
          simp only [Bool.not_false, true_iff]
          refine ⟨cq, fun j hj => ?_⟩
          cases hp : badB M (npairs ps) (c.ops.getD j default) with
          | false => rfl
          | true => have := hx.2 ⟨j, hj, hp⟩; cases this
      · repeat (first | intro id | refine goq ?_)
        ((first | apply retO_r | apply retO_n); (focus (exact resq)))
        exact ⟨rfl, .inr (.inr ⟨hR, hC, false, rfl, by simp [cq]⟩)⟩
    · repeat (first | intro id | refine goq ?_)
      ((first | apply retO_r | apply retO_n); (focus (exact resq)))
      exact ⟨rfl, .inr (.inl ⟨hR, hC, rfl⟩)⟩
  · have hR : ¬ RightP N ps := fun h => by have := he.2 h; omega
    repeat (first | intro id | refine goq ?_)
    ((first | apply retO_r | apply retO_n); (focus (exact resq)))
    exact ⟨rfl, .inl ⟨hR, rfl⟩⟩
end Go.Proofs.Ytfaphhcloanhnaa
