/- Steps from every place, in boxes; the document's way told alike. -/
import Derived.Test.YtfaphhcloanhnaaRtC14
import Derived.Test.YtfaphhcloanhnaaRtDist2
set_option linter.unusedSimpArgs false
set_option linter.unusedVariables false
namespace Go.Proofs.Ytfaphhcloanhnaa
open Go.Am Go.Dist
set_option maxRecDepth 4000
set_option maxHeartbeats 4000000
variable {E : Env} {L : Hp}
theorem mem_lt {N : Nat} {ps : List (Nat × Nat)} (hps : ∀ k, k < ps.length → (ps.getD k (0, 0)).1 < N ∧ (ps.getD k (0, 0)).2 < N) : ∀ p ∈ ps, p.1 < N ∧ p.2 < N := by
  intro p hp
  obtain ⟨k, hk, e⟩ := List.getElem_of_mem hp
  have := hps k hk
  simpa [hk, e] using this
theorem far_loop {N : Nat} {ps : List (Nat × Nat)} {vn : AVal} (hF : E.fns = fnsT) (hms : E.mode f_route_steps = .open_) (hN : N ≤ 64) (hps : ∀ k, k < ps.length → (ps.getD k (0, 0)).1 < N ∧ (ps.getD k (0, 0)).2 < N) (hvn : SlS vn ((nbs N ps).map inat)) :
    ∀ (d k : Nat) (t : Tr AVal) (a : AVal) (cs : List AVal) (B H : Hp), d + k = N → t.get 0 = some vn → t.get 3 = some a → t.get 6 = some (aint N) → t.get 7 = some (aint k) → BufO 1 a cs k B → RowsO cs (dists N ps k) H →
    WpO E (.loop c_route_far_l0) t (B ++ (H ++ L)) (fun ex t' L' => ex = .exit 0 ∧ ∃ a' cs' B' H', t'.get 3 = some a' ∧ BufO 1 a' cs' N B' ∧ RowsO cs' (dists N ps N) H' ∧ L' = B' ++ (H' ++ L)) := by
  intro d
  induction d with
  | zero =>
    intro k t a cs B H hk h0 h3 h6 h7 hb hr
    obtain rfl : k = N := by omega
    refine wo_loop ?_
    repeat (first | intro id | refine goq ?_)
    exact ⟨rfl, a, cs, B, H, by exact slotq, hb, hr, rfl⟩
  | succ d ih =>
    intro k t a cs B H hk h0 h3 h6 h7 hb hr
    refine wo_loop ?_
    repeat (first | intro id | refine goq ?_)
    refine gok ?_
    refine (steps_open (src := k) (adj := Adj ps) hF hms hN (by omega) (nbs_length _ _) hvn (fun a ha b => by rw [nbs_getD ha]; exact nbl_mem) ?_).mono ?_
    · intro a
      by_cases ha : a < N
      · rw [nbs_getD ha]
        have := nbl_len N ps a
        omega
      · simp [nbs, ha]
    rintro v L' ⟨io, r, rfl, hd, rfl⟩
    have hrd : r = dist N ps k := hd.unique (dist_is (mem_lt hps) (by omega))
    subst hrd
    repeat (first | intro id | refine goq ?_)
    have hb' := hb.pushed (id := id) (nw := [.sl io 0 N 1 (some N)]) rfl rfl
    have hr' := hr.snoc (id := io) (cap := some N) (dist_len N ps k)
    rw [← dists_succ] at hr'
    refine WpO.weak (ih (k + 1) _ _ _ _ _ ?_ ?_ ?_ ?_ ?_ hb' hr') ?_
    · omega
    · exact slotq
    · exact slotq
    · exact slotq
    · exact slotq
    · rw [List.append_assoc]
      exact subq
/-- A slice of slices, in boxes. -/
structure FarO (N : Nat) (ps : List (Nat × Nat)) (v : AVal) (B : Hp) : Prop where
  ex : ∃ cs B1 H, BufO 1 v cs N B1 ∧ RowsO cs (dists N ps N) H ∧ B = B1 ++ H
theorem far_open (hF : E.fns = fnsT) (hm : E.mode f_route_far = .open_) (hms : E.mode f_route_steps = .open_) {N : Nat} {ps : List (Nat × Nat)} {vn : AVal} (hN : N ≤ 64) (hps : ∀ k, k < ps.length → (ps.getD k (0, 0)).1 < N ∧ (ps.getD k (0, 0)).2 < N) (hvn : SlS vn ((nbs N ps).map inat)) :
    CallO E f_route_far [vn] L fun v L' => ∃ B, FarO N ps v B ∧ L' = B ++ L := by
  refine callO_open hm (fns_of hF n_route_far) ?_
  obtain ⟨us, r1, r2, r3⟩ := hvn.row
  have hl : ((nbs N ps).map inat).length = N := by rw [List.length_map, nbs_length]
  rw [hl] at r1
  refine bodyO_of (Nat.le_of_ble_eq_true rfl) ?_; generalize ht : argSlots _ 0 .nil = t; have h0 : t.get 0 = some _ := (by rw [← ht]; rfl); clear ht
  repeat (first | intro id | refine goq ?_)
  refine WpO.mono (far_loop (L := L) hF hms hN hps hvn N 0 _ anil [] [] [] (by omega) ?_ ?_ ?_ ?_ .nil .nil) ?_
  · exact slotq
  · exact slotq
  · exact slotq
  · exact slotq
  rintro ex t1 L' ⟨rfl, a, cs, B, H, g3, hb, hr, rfl⟩
  repeat (first | intro id | refine goq ?_)
  ((first | apply retO_r | apply retO_n); (focus (exact resq)))
  exact ⟨B ++ H, ⟨cs, B, H, hb, hr, rfl⟩, by rw [List.append_assoc]⟩
end Go.Proofs.Ytfaphhcloanhnaa

/- A shortest path, by a function that is looked with. -/
namespace Go.Proofs.Ytfaphhcloanhnaa
open Go.Am Go.Dist
set_option maxRecDepth 4000
set_option maxHeartbeats 4000000
variable {E : Env} {L : Hp}
theorem vo_fn {k : Nat} {g : Fn} {a b a' b' : List AVal} (h1 : ViewL L k a a') (h2 : ViewL L k b b') : ViewO L (k + 1) (.fn g a b) (.fn g a' b') := ⟨fun m hm => by simp only [view, h1.ex m hm, h2.ex m hm]⟩
theorem vo_ptr {k id off : Nat} {cs us : List AVal} (hi : In id cs L) (ho : off ≤ cs.length) (h : ViewL L k (cs.drop off) us) : ViewO L (k + 1) (.ptr id off) (.ro us) := ⟨fun m hm => by simp only [view, hm.get hi, ho, if_true, h.ex m hm, Option.map_some]⟩
/-- Where p first holds. -/
structure IdxP (l : List Int) (p : Int → Bool) (i : Int) : Prop where
  lo : i = -1 ∨ 0 ≤ i
  no : i < 0 → ∀ j, j < l.length → p (l.getD j 0) = false
  yes : 0 ≤ i → i.toNat < l.length ∧ p (l.getD i.toNat 0) = true ∧ ∀ j, j < i.toNat → p (l.getD j 0) = false
theorem indexf_loop {g : FuncId} {cv : List AVal} {v : AVal} {l : List Int} {p : Int → Bool} (hv : SlI v l) (hlt : l.length < 2 ^ 62) (hc : ∀ j, j < l.length → CallO E g ([aint (l.getD j 0)] ++ cv) L fun r L' => r = abool (p (l.getD j 0)) ∧ L' = L) :
    ∀ (d k : Nat) (t : Tr AVal), d + k = l.length → t.get 0 = some v → t.get 1 = some (.fn (.func g) [] cv) → t.get 7 = some (aint l.length) → t.get 8 = some (aint k) → (∀ j, j < k → p (l.getD j 0) = false) →
    WpO E (.loop c_slices_IndexFunc_int_int_l0) t L (fun ex t' L' => L' = L ∧ ((ex = .exit 0 ∧ ∀ j, j < l.length → p (l.getD j 0) = false) ∨ (ex = .ret ∧ ∃ i, t'.get 4 = some (aint i) ∧ IdxP l p i))) := by
  intro d
  induction d with
  | zero =>
    intro k t hk h0 h1 h7 h8 hno
    refine wo_loop ?_
    repeat (first | intro id | refine goq ?_)
    exact ⟨rfl, .inl ⟨rfl, fun j hj => hno j (by omega)⟩⟩
  | succ d ih =>
    intro k t hk h0 h1 h7 h8 hno
    refine wo_loop ?_
    repeat (first | intro id | refine goq ?_)
    apply oo_cv
    focus exact wanted_none
    focus exact slotq
    focus (repeat (first | exact argAll_nil | (apply argAll_cons; (focus exact slotq))))
    refine (hc k (by omega)).mono ?_
    rintro r L' ⟨rfl, rfl⟩
    cases hp : p (l.getD k 0) with
    | true =>
      repeat (first | intro id | refine goq ?_)
      exact ⟨rfl, .inr ⟨rfl, k, by exact slotq, .inr (by omega), fun h => by omega, fun _ => ⟨by omega, hp, fun j hj => hno j (by omega)⟩⟩⟩
    | false =>
      repeat (first | intro id | refine goq ?_)
      refine ih (k + 1) _ ?_ ?_ ?_ ?_ ?_ ?_
      · omega
      · exact slotq
      · exact slotq
      · exact slotq
      · exact slotq
      · intro j hj
        by_cases e : j = k
        · subst e; exact hp
        · exact hno j (by omega)
theorem indexf_ok (hF : E.fns = fnsT) (hm : E.mode f_slices_IndexFunc_int_int = .iso false) {g : FuncId} {args cv : List AVal} {v : AVal} {l : List Int} {p : Int → Bool} (hw : ViewsO L args [v, .fn (.func g) [] cv]) (hv : SlI v l) (hlt : l.length < 2 ^ 62)
    (hc : ∀ j, j < l.length → CallO E g ([aint (l.getD j 0)] ++ cv) [] fun r L' => r = abool (p (l.getD j 0)) ∧ L' = []) :
    CallO E f_slices_IndexFunc_int_int args L fun r L' => (∃ i, r = aint i ∧ IdxP l p i) ∧ L' = L := by
  refine callO_iso0 (R := fun r => ∃ i, r = aint i ∧ IdxP l p i) hm (fns_of hF n_slices_IndexFunc_int_int) hw ?_
  refine bodyO_of (Nat.le_of_ble_eq_true rfl) ?_; generalize ht : argSlots _ 0 .nil = t; have h0 : t.get 0 = some _ := (by rw [← ht]; rfl); have h1 : t.get 1 = some _ := (by rw [← ht]; rfl); clear ht
  repeat (first | intro id | refine goq ?_)
  refine WpO.mono (indexf_loop (p := p) hv hlt hc l.length 0 _ (by omega) ?_ ?_ ?_ ?_ (fun j hj => by omega)) ?_
  · exact slotq
  · exact slotq
  · exact slotq
  · exact slotq
  rintro ex t1 L' ⟨rfl, ⟨rfl, hno⟩ | ⟨rfl, i, h4, hi⟩⟩
  · repeat (first | intro id | refine goq ?_)
    ((first | apply retO_r | apply retO_n); (focus (exact resq)))
    exact ⟨rfl, -1, rfl, .inl rfl, fun _ => hno, fun h => by omega⟩
  · repeat (first | intro id | refine goq ?_)
    ((first | apply retO_r | apply retO_n); (focus (exact resq)))
    exact ⟨rfl, i, rfl, hi⟩

/-- Steps from a to b. -/
def D (N : Nat) (ps : List (Nat × Nat)) (a b : Nat) : Int := (dist N ps a).getD b 0
theorem dists_getD {N : Nat} {ps : List (Nat × Nat)} {j : Nat} (h : j < N) : (dists N ps N).getD j [] = dist N ps j := by simp [dists, h]
theorem path1_ok (hF : E.fns = fnsT) (hm : E.mode f_route_path_1 = .iso false) (hst : still E c_route_path_1_r1 = true) {N : Nat} {ps : List (Nat × Nat)} {fv : AVal} {x a b : Nat} (hfv : SlS fv (dists N ps N)) (hx : x < N) (ha : a < N) (hb : b < N) (hbd : 0 ≤ D N ps a b ∧ D N ps a b ≤ N) (hN : N ≤ 64) :
    CallO E f_route_path_1 [aint x, .ro [fv], .ro [aint b], .ro [aint a]] L fun v L' => v = abool (decide (D N ps x b = D N ps a b - 1)) ∧ L' = L := by
  refine callO_iso0 hm (fns_of hF n_route_path_1) (vs_bare rfl (vs_bare (by simp only [AVal.bare, bareAll, hfv.bare]; rfl) (vs_bare rfl (vs_bare rfl vs_nil)))) ?_
  obtain ⟨us, r1, r2, r3⟩ := hfv.row
  rw [dists_length] at r1 r2 r3
  obtain ⟨ux, hx1, hx2⟩ := r3 x hx
  obtain ⟨ua, ha1, ha2⟩ := r3 a ha
  rw [dists_getD hx] at hx2
  rw [dists_getD ha] at ha2
  have hx1' : (us.drop (x * 1))[0]? = some ux := by simpa using hx1
  have ha1' : (us.drop (a * 1))[0]? = some ua := by simpa using ha1
  have lx := dist_len N ps x
  have la := dist_len N ps a
  unfold D at hbd ⊢
  refine bodyO_of (Nat.le_of_ble_eq_true rfl) ?_; generalize ht : argSlots _ 0 .nil = t; have h0 : t.get 0 = some _ := (by rw [← ht]; rfl); have h1 : t.get 1 = some _ := (by rw [← ht]; rfl); have h2 : t.get 2 = some _ := (by rw [← ht]; rfl); have h3 : t.get 3 = some _ := (by rw [← ht]; rfl); clear ht
  repeat (first | intro id | refine goq ?_)
  ((first | apply retO_r | apply retO_n); (focus (exact resq)))
  exact ⟨rfl, rfl⟩

/-- The neighbour that is gone to. -/
def nxt (N : Nat) (ps : List (Nat × Nat)) (b a : Nat) : Nat := ((nbl N ps a).find? fun k => decide (D N ps k b = D N ps a b - 1)).getD 0
def pathFrom (N : Nat) (ps : List (Nat × Nat)) (b : Nat) : Nat → Nat → List Nat
  | 0, _ => []
  | n + 1, a => nxt N ps b a :: pathFrom N ps b n (nxt N ps b a)
end Go.Proofs.Ytfaphhcloanhnaa

/- A shortest path, walked. -/
namespace Go.Proofs.Ytfaphhcloanhnaa
open Go.Am Go.Dist
set_option maxRecDepth 4000
set_option maxHeartbeats 4000000
variable {E : Env} {L : Hp}
theorem find_first (q : Nat → Bool) : ∀ (l : List Nat) (i : Nat), i < l.length → q (l.getD i 0) = true → (∀ j, j < i → q (l.getD j 0) = false) → l.find? q = some (l.getD i 0)
  | [], i, h, _, _ => by simp at h
  | x :: l, 0, h, h1, _ => by
    simp only [List.getD_cons_zero] at h1 ⊢
    rw [List.find?_cons, h1]
  | x :: l, i + 1, h, h1, h2 => by
    have h3 := h2 0 (by omega)
    simp only [List.getD_cons_zero] at h3
    rw [List.find?_cons, h3]
    simp only [List.getD_cons_succ] at h1 ⊢
    exact find_first q l i (by simpa using h) h1 fun j hj => by have := h2 (j + 1) (by omega); simpa using this
theorem inat_getD {l : List Nat} {j : Nat} (h : j < l.length) : (inat l).getD j 0 = ((l.getD j 0 : Nat) : Int) := by simp [inat, h]
theorem RowsO.seen {cs : List AVal} {ls : List (List Int)} {H : Hp} (h : RowsO cs ls H) : ∃ us, us.length = ls.length ∧ (∀ (j : Nat) u l, us[j]? = some u → ls[j]? = some l → SlI u l) ∧ ∀ (M : Hp) (k : Nat), (∀ id c, In id c H → In id c M) → ViewL M (k + 2) cs us := by
  induction h with
  | nil => exact ⟨[], rfl, fun j u l h => by simp at h, fun M k _ => vl_nil⟩
  | @snoc cs ls H id n cap l h hn ih =>
    obtain ⟨us, h2, h3, h1⟩ := ih
    refine ⟨us ++ [.rs (l.map aint) n cap], by simp [h2], fun j u l' hu hl => ?_, fun M k hM => ?_⟩
    · by_cases hj : j < us.length
      · rw [List.getElem?_append_left hj] at hu
        rw [List.getElem?_append_left (by omega)] at hl
        exact h3 j u l' hu hl
      · rw [List.getElem?_append_right (by omega)] at hu
        rw [List.getElem?_append_right (by omega)] at hl
        by_cases e : j = us.length
        · subst e
          rw [h2] at hl hu
          simp at hu hl
          subst hu hl hn
          exact .inr ⟨cap, rfl⟩
        · have : j - us.length = (j - us.length - 1) + 1 := by omega
          rw [this] at hu
          simp at hu
    · exact vl_app (h1 M k fun id c hi => hM id c hi.appl) (vl_cons (vo_sl (hM _ _ (In.app .here)) (by rw [Nat.mul_one]; exact seg_full (by simp [hn])) (vl_sc (sc_ints l))) vl_nil)
theorem FarO.seen {N : Nat} {ps : List (Nat × Nat)} {v : AVal} {B : Hp} (h : FarO N ps v B) : ∃ u, SlS u (dists N ps N) ∧ ∀ (M : Hp) (k : Nat), (∀ id c, In id c B → In id c M) → ViewO M (k + 3) v u := by
  obtain ⟨cs, B1, H, hb, hr, rfl⟩ := h.ex
  obtain ⟨us, e2, e3, e1⟩ := RowsO.seen hr
  rw [dists_length] at e2
  have hlen := hb.length
  rcases BufO.inv hb with ⟨rfl, h1, h2, rfl⟩ | ⟨id, rfl, rfl⟩
  · subst h2
    exact ⟨anil, ⟨[], .inl ⟨rfl, by simp [dists], rfl⟩, by simp [dists], fun j u l h => by simp at h⟩, fun M k _ => ⟨fun m hm => rfl⟩⟩
  · exact ⟨.rs us N none, ⟨us, .inr ⟨none, by rw [dists_length]⟩, by rw [dists_length]; exact e2, e3⟩, fun M k hM => vo_sl (hM _ _ (In.appl .here)) (seg_full hlen) (e1 M k fun _ _ h => hM _ _ (In.app h))⟩
theorem BufO.isOne_far {N : Nat} {ps : List (Nat × Nat)} {v : AVal} {B : Hp} (h : FarO N ps v B) : v.one = true := by
  obtain ⟨cs, B1, H, hb, -, -⟩ := h.ex
  exact hb.isOne

/-- A map whose places hang together. -/
structure Good (N : Nat) (ps : List (Nat × Nat)) : Prop where
  hN : N ≤ 64
  lt : ∀ p ∈ ps, p.1 < N ∧ p.2 < N
  conn : ∀ a b, a < N → b < N → 0 ≤ D N ps a b ∧ D N ps a b < N
theorem Good.is {N : Nat} {ps : List (Nat × Nat)} (h : Good N ps) : ∀ a, a < N → IsDist N (Adj ps) a (dist N ps a) := fun a ha => dist_is h.lt ha
theorem Good.zero {N : Nat} {ps : List (Nat × Nat)} (h : Good N ps) {a b : Nat} (ha : a < N) (hb : b < N) : D N ps a b = 0 ↔ a = b := by
  constructor
  · intro e
    apply Classical.byContradiction
    intro hne
    have := (h.is a ha).pos hb (fun e => hne e.symm) (by unfold D at e; omega)
    unfold D at e
    omega
  · rintro rfl
    exact (h.is a ha).src0
theorem Good.nxt {N : Nat} {ps : List (Nat × Nat)} (h : Good N ps) {a b : Nat} (ha : a < N) (hb : b < N) (hne : a ≠ b) : nxt N ps b a ∈ nbl N ps a ∧ D N ps (nxt N ps b a) b = D N ps a b - 1 := by
  obtain ⟨k, hk, hadj, e⟩ := nearer adj_sym h.is ha hb hne (h.conn a b ha hb).1
  have hm : k ∈ nbl N ps a := nbl_mem.2 ⟨hk, hadj⟩
  have hs : ((nbl N ps a).find? fun k => decide (D N ps k b = D N ps a b - 1)).isSome = true := by
    rw [List.find?_isSome]
    exact ⟨k, hm, by simp only [decide_eq_true_eq]; exact e⟩
  obtain ⟨y, hy⟩ := Option.isSome_iff_exists.1 hs
  have h1 := List.mem_of_find?_eq_some hy
  have h2 := List.find?_some hy
  unfold Proofs.Ytfaphhcloanhnaa.nxt
  rw [hy]
  exact ⟨h1, by simpa using h2⟩

theorem path_loop (hF : E.fns = fnsT) (hmi : E.mode f_slices_IndexFunc_int_int = .iso false) (hmp : E.mode f_route_path_1 = .iso false) (hst3 : still E c_route_path_r3 = true) (hst1 : still E c_route_path_1_r1 = true) {N b i5 i6 i7 : Nat} {ps : List (Nat × Nat)} {nv w fv : AVal} (hG : Good N ps) (hnv : SlS nv ((nbs N ps).map inat)) (hb : b < N) (hw1 : w.one = true) (hfv : SlS fv (dists N ps N)) (hview : ∀ M : Hp, (∀ id c, In id c L → In id c M) → ViewO M 62 w fv) :
    ∀ (n a : Nat) (t : Tr AVal) (acc : List Nat) (iw : Nat) (cap : Option Nat), a < N → D N ps a b = n → acc.length + n ≤ 1000 → t.get 0 = some nv → t.get 5 = some (.ptr i5 0) → t.get 6 = some (.ptr i6 0) → t.get 7 = some (.ptr i7 0) → t.get 9 = some (.sl iw 0 acc.length 1 cap) →
    WpO E (.loop c_route_path_l0) t ((iw, (inat acc).map aint) :: (i7, [aint b]) :: (i6, [aint a]) :: (i5, [w]) :: L) (fun ex t' L' => ex = .exit 0 ∧ ∃ iw' cap', t'.get 9 = some (.sl iw' 0 (acc ++ pathFrom N ps b n a).length 1 cap') ∧ Am.Sub ((iw', (inat (acc ++ pathFrom N ps b n a)).map aint) :: L) L') := by
  intro n
  induction n with
  | zero =>
    intro a t acc iw cap ha hD hl h0 h5 h6 h7 h9
    have hab : a = b := (hG.zero ha hb).1 hD
    refine wo_loop ?_
    repeat (first | intro id | refine goq ?_)
    refine ⟨rfl, iw, cap, ?_, ?_⟩
    · simp only [pathFrom, List.append_nil]; exact slotq
    · simp only [pathFrom, List.append_nil]; exact subq
  | succ n ih =>
    intro a t0 acc iw cap ha hD hl h0 h5 h6 h7 h9
    have hab : a ≠ b := by rintro rfl; have := (hG.zero ha ha).2 rfl; omega
    obtain ⟨hx1, hx2⟩ := hG.nxt ha hb hab
    have hxN := (nbl_mem.1 hx1).1
    obtain ⟨us, r1, r2, r3⟩ := hnv.row
    rw [List.length_map, nbs_length] at r1 r2 r3
    obtain ⟨ua, ha1, ha2⟩ := r3 a ha
    have hnb : ((nbs N ps).map inat).getD a [] = inat (nbl N ps a) := by simp [nbs, ha]
    rw [hnb] at ha2
    have ha1' : (us.drop (a * 1))[0]? = some ua := by simpa using ha1
    have hll := inat_length (nbl N ps a)
    have hla := nbl_len N ps a
    have hN := hG.hN
    have hsg : seg ((inat acc).map aint) 0 (acc.length * 1) = some ((inat acc).map aint) := by rw [Nat.mul_one]; exact seg_full (by simp [inat])
    refine wo_loop ?_
    repeat (first | intro id | refine goq ?_)
    refine gok ?_
    refine (indexf_ok (g := f_route_path_1) (cv := [.ro [fv], .ro [aint b], .ro [aint a]]) (v := ua) (l := inat (nbl N ps a)) (p := fun x => decide (D N ps x.toNat b = D N ps a b - 1)) hF hmi ?_ ha2 (by omega) ?_).mono ?_
    · refine vs_bare (bare_SlI ha2) (vs_view rfl (vo_fn vl_nil (vl_cons (vo_ptr (by exact inq) (by simp) (vl_cons (hview _ ?_) vl_nil)) (vl_cons (vo_ptr (by exact inq) (by simp) (vl_cons vo_sc vl_nil)) (vl_cons (vo_ptr (by exact inq) (by simp) (vl_cons vo_sc vl_nil)) vl_nil)))) vs_nil)
      intro id c h
      exact .next (.next (.next (.next h)))
    · intro j hj
      rw [hll] at hj
      rw [inat_getD hj]
      have hm : (nbl N ps a).getD j 0 ∈ nbl N ps a := by rw [List.getD_eq_getElem?_getD, List.getElem?_eq_getElem hj]; exact List.getElem_mem hj
      have := hG.conn a b ha hb
      exact path1_ok hF hmp hst1 hfv (nbl_mem.1 hm).1 ha hb ⟨this.1, by omega⟩ hN
    rintro r L' ⟨⟨i, rfl, hi⟩, rfl⟩
    have hi0 : 0 ≤ i := by
      rcases hi.lo with e | e
      · obtain ⟨j, hj, e2⟩ := List.getElem_of_mem hx1
        have h3 := hi.no (by omega) j (by omega)
        have h4 := of_decide_eq_false h3
        rw [inat_getD hj, List.getD_eq_getElem?_getD, List.getElem?_eq_getElem hj, Option.getD_some, e2, Int.toNat_natCast] at h4
        exact absurd hx2 h4
      · exact e
    obtain ⟨q1, q2, q3⟩ := hi.yes hi0
    obtain ⟨j, rfl⟩ : ∃ j : Nat, i = j := ⟨i.toNat, by omega⟩
    rw [Int.toNat_natCast] at q1 q3
    rw [hll] at q1
    have q2' := of_decide_eq_true q2
    rw [Int.toNat_natCast, inat_getD q1, Int.toNat_natCast] at q2'
    have hnx : (nbl N ps a).getD j 0 = nxt N ps b a := by
      have := find_first (fun k => decide (D N ps k b = D N ps a b - 1)) (nbl N ps a) j q1 (decide_eq_true q2') fun k hk => by
        have h4 := of_decide_eq_false (q3 k hk)
        rw [inat_getD (by omega), Int.toNat_natCast] at h4
        exact decide_eq_false h4
      unfold nxt
      rw [this]
      rfl
    have hj1 : (((inat (nbl N ps a)).map aint).drop (j * 1))[0]? = some (aint ((nxt N ps b a : Nat) : Int)) := by rw [get_inat q1, hnx]
    repeat (first | intro id | refine goq ?_)
    have hcell : (inat acc).map aint ++ [aint ((nxt N ps b a : Nat) : Int)] = (inat (acc ++ [nxt N ps b a])).map aint := by
      rw [inat_app, List.map_append]; rfl
    rw [hnx, hcell]
    refine WpO.weak (WpO.mono (ih (nxt N ps b a) _ (acc ++ [nxt N ps b a]) id none hxN ?_ ?_ ?_ ?_ ?_ ?_ ?_) ?_) ?_
    rotate_left 7
    · rintro ex t' L' ⟨e1, iw', cap', e2, e3⟩
      rw [List.append_assoc] at e2 e3
      exact ⟨e1, iw', cap', e2, e3⟩
    · exact subq
    · rw [hx2]; omega
    · rw [List.length_append]; simp only [List.length_singleton]; omega
    · exact slotq
    · exact slotq
    · exact slotq
    · exact slotq
    · rw [List.length_append]; exact slotq
end Go.Proofs.Ytfaphhcloanhnaa

/- A shortest path; steps told: the program's faces. -/
namespace Go.Proofs.Ytfaphhcloanhnaa
open Go.Am Go.Dist
set_option maxRecDepth 4000
set_option maxHeartbeats 4000000
variable {E : Env} {L : Hp}
/-- The path from a to b. -/
def pathL (N : Nat) (ps : List (Nat × Nat)) (a b : Nat) : List Nat := a :: pathFrom N ps b (D N ps a b).toNat a
theorem path_ok (hF : E.fns = fnsT) (hm : E.mode f_route_path = .open_) (hmi : E.mode f_slices_IndexFunc_int_int = .iso false) (hmp : E.mode f_route_path_1 = .iso false) (hst3 : still E c_route_path_r3 = true) {N a b : Nat} {ps : List (Nat × Nat)} {nv w : AVal} {B : Hp} (hG : Good N ps) (hnv : SlS nv ((nbs N ps).map inat)) (ha : a < N) (hb : b < N) (hw : FarO N ps w B) :
    CallO E f_route_path [nv, w, aint a, aint b] (B ++ L) fun v L' => ∃ iw cap, v = .sl iw 0 (pathL N ps a b).length 1 cap ∧ L' = [(iw, (inat (pathL N ps a b)).map aint)] := by
  refine CallO.to (callO_open hm (fns_of hF n_route_path) ?_)
  have hw1 := BufO.isOne_far hw
  have hcn := hG.conn a b ha hb
  have hN := hG.hN
  obtain ⟨fv, hfv, hview⟩ := hw.seen
  refine bodyO_of (Nat.le_of_ble_eq_true rfl) ?_; generalize ht : argSlots _ 0 .nil = t; have h0 : t.get 0 = some _ := (by rw [← ht]; rfl); have h1 : t.get 1 = some _ := (by rw [← ht]; rfl); have h2 : t.get 2 = some _ := (by rw [← ht]; rfl); have h3 : t.get 3 = some _ := (by rw [← ht]; rfl); clear ht
  repeat (first | intro id | refine goq ?_)
  rename_i i5 i6 i7
  refine WpO.mono (path_loop (L := B ++ L) (i5 := i5) (i6 := i6) (i7 := i7) hF hmi hmp hst3 rfl hG hnv hb hw1 hfv (fun M hM => hview M 59 fun id c h => hM id c h.appl) (D N ps a b).toNat a _ [a] id (some 1) ha (by omega) (by simp only [List.length_singleton]; omega) ?_ ?_ ?_ ?_ ?_) ?_
  · exact slotq
  · exact slotq
  · exact slotq
  · exact slotq
  · exact slotq
  rintro ex t1 L' ⟨rfl, iw, cap, g9, hsub⟩
  refine blkO.x (seqO.n (WpO.weak ?_ (Sub.trans (Sub.cons Rem.one Sub.nil) hsub)))
  repeat (first | intro id | refine goq ?_)
  ((first | apply retO_r | apply retO_n); (focus (exact resq)))
  exact ⟨_, Sub.refl _, iw, cap, rfl, rfl⟩

/-- The numbers of places are right. -/
def inR (N a b : Int) : Prop := 0 ≤ a ∧ a < N ∧ 0 ≤ b ∧ b < N
/-- What is told of a path. -/
structure PathR (N a b : Int) (ps : List (Int × Int)) (v : AVal) : Prop where
  ex : (¬ RightP N ps ∧ v = .tup [anil, aint 200]) ∨ (RightP N ps ∧ ¬ inR N a b ∧ v = .tup [anil, aint 2]) ∨ (RightP N ps ∧ inR N a b ∧ ∃ s, v = .tup [s, aint 0] ∧ SlI s (inat (pathL N.toNat (npairs ps) a.toNat b.toNat)))
theorem good_of {N : Nat} {ps : List (Int × Int)} (h : RightP N ps) : Good N (npairs ps) := by
  have hlt := mem_lt (npairs_lt h.ok)
  refine ⟨by have := h.n2; omega, hlt, fun a b ha hb => ⟨conn hlt (fun v hv => by have := h.all v (by rw [Int.toNat_natCast]; exact hv); rwa [Int.toNat_natCast] at this) ha hb, dist_lt hlt ha hb⟩⟩
theorem Path_ok (hF : E.fns = fnsT) (hm : E.mode f_route_Path = .iso true) (hmp : E.mode f_route_path = .open_) (hmi : E.mode f_slices_IndexFunc_int_int = .iso false) (hmp1 : E.mode f_route_path_1 = .iso false) (hst3 : still E c_route_path_r3 = true)
    (hmC : E.mode f_route_Check = .iso false) (hmn : E.mode f_route_near = .iso true) (hms : E.mode f_slices_Sort_int_int = .known) (hk : E.known f_slices_Sort_int_int = knSort) (hmc : E.mode f_slices_Compact_int_int = .open_) (hmst : E.mode f_route_steps = .open_) (hmco : E.mode f_slices_Contains_int_int = .iso false) (hmix : E.mode f_slices_Index_int_int = .iso false) (hmf : E.mode f_route_far = .open_)
    {N a b : Int} {s : AVal} {ps : List (Int × Int)} (hs : SlP s ps) (hlt : ps.length ≤ 1000000) :
    CallO E f_route_Path [.agg [aint N, s], aint a, aint b] L fun v L' => PathR N a b ps v ∧ L' = L := by
  refine callO_iso1 hm (fns_of hF n_route_Path) ?_ ?_
  · simp only [List.all_cons, List.all_nil, bare_MapA ⟨s, rfl, hs⟩]; rfl
  have hs1 := hs.isOne
  refine bodyO_of (Nat.le_of_ble_eq_true rfl) ?_; generalize ht : argSlots _ 0 .nil = t; have h0 : t.get 0 = some _ := (by rw [← ht]; rfl); have h1 : t.get 1 = some _ := (by rw [← ht]; rfl); have h2 : t.get 2 = some _ := (by rw [← ht]; rfl); clear ht
  repeat (first | intro id | refine goq ?_)
  refine gok ?_
  refine (Check_ok hF hmC hmn hms hk hmc (stepsC_open hF hmst) hmco hmix hs hlt).mono ?_
  rintro u L' ⟨⟨e, rfl, he, he2⟩, rfl⟩
  rcases he2 with rfl | rfl
  · have hR := he.1 rfl
    obtain ⟨M, rfl⟩ : ∃ k : Nat, N = k := ⟨N.toNat, by have := hR.n1; omega⟩
    have hG := good_of hR
    have hnp := npairs_length ps
    have done : ¬ inR M a b → ∀ (L2 : Hp), ∃ u, ViewO L2 64 (.tup [anil, aint 2]) u ∧ PathR M a b ps u := fun h L2 => ⟨_, vo_tup (vl_cons vo_sc (vl_cons vo_sc vl_nil)), .mk (.inr (.inl ⟨hR, h, rfl⟩))⟩
    by_cases c1 : a < 0
    · repeat (first | intro id | refine goq ?_)
      ((first | apply retO_r | apply retO_n); (focus (exact resq)))
      exact done (fun h => by unfold inR at h; omega) _
    by_cases c2 : (M : Int) ≤ a
    · repeat (first | intro id | refine goq ?_)
      ((first | apply retO_r | apply retO_n); (focus (exact resq)))
      exact done (fun h => by unfold inR at h; omega) _
    by_cases c3 : b < 0
    · repeat (first | intro id | refine goq ?_)
      ((first | apply retO_r | apply retO_n); (focus (exact resq)))
      exact done (fun h => by unfold inR at h; omega) _
    by_cases c4 : (M : Int) ≤ b
    · repeat (first | intro id | refine goq ?_)
      ((first | apply retO_r | apply retO_n); (focus (exact resq)))
      exact done (fun h => by unfold inR at h; omega) _
    obtain ⟨x, rfl⟩ : ∃ k : Nat, a = k := ⟨a.toNat, by omega⟩
    obtain ⟨y, rfl⟩ : ∃ k : Nat, b = k := ⟨b.toNat, by omega⟩
    repeat (first | intro id | refine goq ?_)
    refine gok ?_
    refine (near_ok hF hmn hms hk hmc hG.hN (npairs_lt hR.ok) (SlP_N hR.ok hs) (by omega)).mono ?_
    rintro nv L' ⟨hn, rfl⟩
    repeat (first | intro id | refine goq ?_)
    refine gok ?_
    refine (far_open hF hmf hmst hG.hN (npairs_lt hR.ok) hn).mono ?_
    rintro w L' ⟨B, hw, rfl⟩
    repeat (first | intro id | refine goq ?_)
    refine gok ?_
    refine (path_ok hF hmp hmi hmp1 hst3 hG hn (by omega) (by omega) hw).mono ?_
    rintro u L' ⟨iw, cap, rfl, rfl⟩
    repeat (first | intro id | refine goq ?_)
    ((first | apply retO_r | apply retO_n); (focus (exact resq)))
    exact ⟨_, vo_tup (vl_cons (vo_sl .here (by rw [Nat.mul_one]; exact seg_full (by simp [inat])) (vl_sc (sc_ints _))) (vl_cons vo_sc vl_nil)), .mk (.inr (.inr ⟨hR, by unfold inR; omega, _, rfl, .inr ⟨cap, by rw [inat_length]; rfl⟩⟩))⟩
  · have hR : ¬ RightP N ps := fun h => by have := he.2 h; omega
    repeat (first | intro id | refine goq ?_)
    ((first | apply retO_r | apply retO_n); (focus (exact resq)))
    exact ⟨_, vo_tup (vl_cons vo_sc (vl_cons vo_sc vl_nil)), .mk (.inl ⟨hR, rfl⟩)⟩
end Go.Proofs.Ytfaphhcloanhnaa

