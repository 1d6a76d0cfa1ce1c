/- Parts of the proof, joined by program: RtC12, AmDraw2. -/
import Derived.Test.YtfaphhcloanhnaaPa19
import Derived.Test.YtfaphhcloanhnaaPa8
import Derived.Test.YtfaphhcloanhnaaPa18
import Derived.Test.YtfaphhcloanhnaaPa16
set_option linter.unusedSimpArgs false
set_option linter.unusedVariables false
namespace Go.Proofs.Ytfaphhcloanhnaa
open Go.Am Go.Ded Go.Dist
set_option maxRecDepth 4000
set_option maxHeartbeats 4000000
variable {E : Env} {L : Hp}
/-- Cells, each with its boxes: as P says of it, by its place. -/
inductive AllP : (Nat → AVal → Hp → Prop) → Nat → List AVal → Hp → Prop where
  | nil {P : Nat → AVal → Hp → Prop} {k : Nat} : AllP P k [] []
  | cons {P : Nat → AVal → Hp → Prop} {k : Nat} {v : AVal} {vs : List AVal} {B H : Hp} (h : P k v B) (hr : AllP P (k + 1) vs H) : AllP P k (v :: vs) (B ++ H)
theorem AllP.mono {P P' : Nat → AVal → Hp → Prop} {k : Nat} {vs : List AVal} {H : Hp} (h : AllP P k vs H) (hp : ∀ j v B, k ≤ j → P j v B → P' j v B) : AllP P' k vs H := by
  induction h with
  | nil => exact .nil
  | cons h hr ih => exact .cons (hp _ _ _ (Nat.le_refl _) h) (ih fun j v B hj => hp j v B (by omega))
theorem AllP.split {P : Nat → AVal → Hp → Prop} {k : Nat} {vs : List AVal} {H : Hp} (h : AllP P k vs H) : ∀ {i : Nat}, i < vs.length → ∃ v B H1 H2, vs[i]? = some v ∧ H = H1 ++ (B ++ H2) ∧ P (k + i) v B ∧
    ∀ (P' : Nat → AVal → Hp → Prop) v' B', P' (k + i) v' B' → (∀ j v B, k ≤ j → j ≠ k + i → P j v B → P' j v B) → AllP P' k (vs.set i v') (H1 ++ (B' ++ H2)) := by
  induction h with
  | nil => intro i hi; simp at hi
  | @cons k v vs B H h hr ih =>
    intro i hi
    cases i with
    | zero =>
      refine ⟨v, B, [], H, rfl, rfl, h, fun P' v' B' h' ho => ?_⟩
      exact .cons (B := B') h' (hr.mono fun j v B hj hp => ho j v B (by omega) (by omega) hp)
    | succ i =>
      obtain ⟨v0, B0, H1, H2, h1, h2, h3, h4⟩ := ih (i := i) (by simpa using hi)
      refine ⟨v0, B0, B ++ H1, H2, by simpa using h1, by rw [h2]; simp, by rw [show k + (i + 1) = k + 1 + i by omega]; exact h3, fun P' v' B' h' ho => ?_⟩
      rw [show k + (i + 1) = k + 1 + i by omega] at h' ho
      have := h4 P' v' B' h' fun j v B hj hne hp => ho j v B (by omega) hne hp
      simp only [List.set_cons_succ, List.append_assoc]
      exact .cons (ho _ _ _ (Nat.le_refl _) (by omega) h) this

/-- Place i's neighbours so far. -/
def RowN (ls : Nat → List Nat) (i : Nat) (v : AVal) (B : Hp) : Prop := BufO 1 v ((inat (ls i)).map aint) (ls i).length B
def addN (a b : Nat) (ls : Nat → List Nat) : Nat → List Nat := fun i => if i = a then ls i ++ [b] else ls i
theorem addN_same (a b : Nat) (ls : Nat → List Nat) : addN a b ls a = ls a ++ [b] := by simp [addN]
theorem addN_other {a b i : Nat} (ls : Nat → List Nat) (h : i ≠ a) : addN a b ls i = ls i := by simp [addN, h]
theorem RowN.add {a b id : Nat} {ls : Nat → List Nat} {v : AVal} {B : Hp} (h : RowN ls a v B) : RowN (addN a b ls) a (.sl id 0 ((ls a).length + 1) 1 none) [(id, (inat (ls a)).map aint ++ [aint b])] := by
  unfold RowN
  rw [addN_same, List.length_append, inat_app, List.map_append]
  exact h.pushed (nw := [aint b]) rfl rfl
theorem RowN.other {a b i : Nat} {ls : Nat → List Nat} {v : AVal} {B : Hp} (hne : i ≠ a) (h : RowN ls i v B) : RowN (addN a b ls) i v B := by
  unfold RowN
  rw [addN_other ls hne]
  exact h

theorem near_r5 {N a b io i5 : Nat} {ls : Nat → List Nat} {vs : List AVal} {H : Hp} {K : Tr AVal → Hp → Prop} {t : Tr AVal} (hN : N ≤ 64) (haN : a < N) (hvs : vs.length = N) (hlen : (ls a).length ≤ 2097152) (hall : AllP (RowN ls) 0 vs H)
    (h3 : t.get 3 = some (.sl io 0 N 1 (some N))) (h5 : t.get 5 = some (.ptr i5 0))
    (h : ∀ t' vs' H', Keep [1, 2, 3, 5, 12, 13, 14] t t' → vs'.length = N → AllP (RowN (addN a b ls)) 0 vs' H' → ∀ L1, Am.Sub ((i5, [aint a, aint b]) :: (io, vs') :: (H' ++ L)) L1 → K t' L1) :
    ∀ nx, DrO E 0 [] c_route_near_r5 t ((i5, [aint a, aint b]) :: (io, vs) :: (H ++ L)) nx K := by
  intro nx
  obtain ⟨v, B, H1, H2, hv, rfl, hP, hset⟩ := hall.split (i := a) (by omega)
  rw [Nat.zero_add] at hP hset
  have hb : BufO 1 v ((inat (ls a)).map aint) (ls a).length B := hP
  have hv' := hv
  rw [List.append_assoc, List.append_assoc]
  repeat (refine goy ?_)
  apply dro_push
  focus exact rslotq
  focus exact hb
  focus exact rslotq
  focus exact remq
  focus exact inq
  focus rfl
  focus rfl
  focus omega
  focus omega
  focus
    intro hfr
    have hq : ((false || !B.isEmpty) && [i5].any (B.map (·.1) ++ [nx]).contains) = false := by
      have h1 := hfr.1
      have h2 := hfr.2 (i5, [aint a, aint b]) (by simp)
      simp only [List.map_cons, List.nodup_cons, List.mem_cons, List.map_append, List.mem_append, not_or] at h1
      have h3 : i5 ∉ B.map (·.1) := h1.2.1.2.2.1
      have h4 : i5 ≠ nx := by simp only at h2; omega
      simp only [List.any_cons, List.any_nil, Bool.or_false, List.contains_eq_mem, List.mem_append, List.mem_singleton, h3, h4, or_self, decide_false, Bool.and_false]
    exact aptq
  have hvl : (vs.set a (.sl (nx + 1) 0 ((ls a).length + 1) 1 none)).length = N := by rw [List.length_set, hvs]
  repeat (refine goy ?_)
  refine h _ _ _ (by exact keepq) hvl (hset (RowN (addN a b ls)) _ _ (RowN.add (id := nx + 1) hP) fun j v B _ hne hp => hp.other hne) _ ?_
  rw [List.append_assoc, List.append_assoc]
  exact subq
theorem near_r6 {N a b io i5 : Nat} {ls : Nat → List Nat} {vs : List AVal} {H : Hp} {K : Tr AVal → Hp → Prop} {t : Tr AVal} (hN : N ≤ 64) (haN : a < N) (hvs : vs.length = N) (hlen : (ls a).length ≤ 2097152) (hall : AllP (RowN ls) 0 vs H)
    (h3 : t.get 3 = some (.sl io 0 N 1 (some N))) (h5 : t.get 5 = some (.ptr i5 0))
    (h : ∀ t' vs' H', Keep [1, 2, 3, 5, 12, 13, 14] t t' → vs'.length = N → AllP (RowN (addN a b ls)) 0 vs' H' → ∀ L1, Am.Sub ((i5, [aint b, aint a]) :: (io, vs') :: (H' ++ L)) L1 → K t' L1) :
    ∀ nx, DrO E 0 [] c_route_near_r6 t ((i5, [aint b, aint a]) :: (io, vs) :: (H ++ L)) nx K := by
  intro nx
  obtain ⟨v, B, H1, H2, hv, rfl, hP, hset⟩ := hall.split (i := a) (by omega)
  rw [Nat.zero_add] at hP hset
  have hb : BufO 1 v ((inat (ls a)).map aint) (ls a).length B := hP
  have hv' := hv
  rw [List.append_assoc, List.append_assoc]
  repeat (refine goy ?_)
  apply dro_push
  focus exact rslotq
  focus exact hb
  focus exact rslotq
  focus exact remq
  focus exact inq
  focus rfl
  focus rfl
  focus omega
  focus omega
  focus
    intro hfr
    have hq : ((false || !B.isEmpty) && [i5].any (B.map (·.1) ++ [nx]).contains) = false := by
      have h1 := hfr.1
      have h2 := hfr.2 (i5, [aint b, aint a]) (by simp)
      simp only [List.map_cons, List.nodup_cons, List.mem_cons, List.map_append, List.mem_append, not_or] at h1
      have h3 : i5 ∉ B.map (·.1) := h1.2.1.2.2.1
      have h4 : i5 ≠ nx := by simp only at h2; omega
      simp only [List.any_cons, List.any_nil, Bool.or_false, List.contains_eq_mem, List.mem_append, List.mem_singleton, h3, h4, or_self, decide_false, Bool.and_false]
    exact aptq
  have hvl : (vs.set a (.sl (nx + 1) 0 ((ls a).length + 1) 1 none)).length = N := by rw [List.length_set, hvs]
  repeat (refine goy ?_)
  refine h _ _ _ (by exact keepq) hvl (hset (RowN (addN a b ls)) _ _ (RowN.add (id := nx + 1) hP) fun j v B _ hne hp => hp.other hne) _ ?_
  rw [List.append_assoc, List.append_assoc]
  exact subq

/-- Each place's neighbours as they are met. -/
def adjL (ps : List (Nat × Nat)) : Nat → List Nat := ps.foldl (fun ls p => addN p.2 p.1 (addN p.1 p.2 ls)) fun _ => []
theorem adjL_snoc (ps : List (Nat × Nat)) (p : Nat × Nat) : adjL (ps ++ [p]) = addN p.2 p.1 (addN p.1 p.2 (adjL ps)) := by simp [adjL]
theorem addN_len (a b : Nat) (ls : Nat → List Nat) (i : Nat) : (addN a b ls i).length ≤ (ls i).length + 1 := by unfold addN; split <;> simp
theorem addN_mem (a b : Nat) (ls : Nat → List Nat) (i x : Nat) : x ∈ addN a b ls i ↔ x ∈ ls i ∨ (i = a ∧ x = b) := by
  unfold addN
  split
  · rename_i h; simp [h]
  · rename_i h; simp [h]
theorem adjL_take {ps : List (Nat × Nat)} {k : Nat} (h : k < ps.length) : adjL (ps.take (k + 1)) = addN (ps.getD k (0, 0)).2 (ps.getD k (0, 0)).1 (addN (ps.getD k (0, 0)).1 (ps.getD k (0, 0)).2 (adjL (ps.take k))) := by
  rw [List.take_succ_eq_append_getElem h, adjL_snoc]
  simp [h]
theorem adjL_len (ps : List (Nat × Nat)) : ∀ k i, k ≤ ps.length → (adjL (ps.take k) i).length ≤ 2 * k
  | 0, i, _ => by simp [adjL]
  | k + 1, i, h => by
    rw [adjL_take (by omega)]
    have h1 := adjL_len ps k i (by omega)
    have h2 := addN_len (ps.getD k (0, 0)).1 (ps.getD k (0, 0)).2 (adjL (ps.take k)) i
    have h3 := addN_len (ps.getD k (0, 0)).2 (ps.getD k (0, 0)).1 (addN (ps.getD k (0, 0)).1 (ps.getD k (0, 0)).2 (adjL (ps.take k))) i
    omega
theorem adjL_mem (ps : List (Nat × Nat)) : ∀ k i x, k ≤ ps.length → (x ∈ adjL (ps.take k) i ↔ Adj (ps.take k) i x)
  | 0, i, x, _ => by simp [adjL, Adj]
  | k + 1, i, x, h => by
    rw [adjL_take (by omega), addN_mem, addN_mem, adjL_mem ps k i x (by omega), List.take_succ_eq_append_getElem (by omega)]
    have e : ps.getD k (0, 0) = ps[k] := by simp [show k < ps.length by omega]
    rw [e]
    unfold Adj
    simp only [List.mem_append, List.mem_singleton, Prod.ext_iff]
    constructor
    · rintro ((( h | h) | h) | h)
      · exact .inl (.inl h)
      · exact .inr (.inl h)
      · exact .inl (.inr h)
      · exact .inr (.inr ⟨h.2, h.1⟩)
    · rintro ((h | h) | (h | h))
      · exact .inl (.inl (.inl h))
      · exact .inl (.inr h)
      · exact .inl (.inl (.inr h))
      · exact .inr ⟨h.2, h.1⟩

theorem near_l0 {N io i1 : Nat} {va : AVal} {ps : List (Nat × Nat)} (hN : N ≤ 64) (hps : ∀ k, k < ps.length → (ps.getD k (0, 0)).1 < N ∧ (ps.getD k (0, 0)).2 < N) (hva : SlN va ps) (hlt : ps.length ≤ 1000000) :
    ∀ (d k : Nat) (t : Tr AVal) (vs : List AVal) (H : Hp), d + k = ps.length → t.get 3 = some (.sl io 0 N 1 (some N)) → t.get 12 = some va → t.get 13 = some (aint ps.length) → t.get 14 = some (aint k) → vs.length = N → AllP (RowN (adjL (ps.take k))) 0 vs H →
    WpO E (.loop c_route_near_l0) t ((io, vs) :: (H ++ L)) (fun ex t' L' => ex = .exit 0 ∧ Keep [1, 2, 3] t t' ∧ ∃ vs' H', vs'.length = N ∧ AllP (RowN (adjL ps)) 0 vs' H' ∧ L' = (io, vs') :: (H' ++ L)) := by
  intro d
  induction d with
  | zero =>
    intro k t vs H hk h3 h12 h13 h14 hvs hall
    refine wo_loop ?_
    repeat (first | intro id | refine goq ?_)
    rw [List.take_of_length_le (by omega)] at hall
    exact ⟨rfl, by exact keepq, vs, H, hvs, hall, rfl⟩
  | succ d ih =>
    intro k t vs H hk h3 h12 h13 h14 hvs hall
    obtain ⟨ha, hb⟩ := hps k (by omega)
    have hl1 := adjL_len ps k (ps.getD k (0, 0)).1 (by omega)
    have hl2 := adjL_len ps k (ps.getD k (0, 0)).2 (by omega)
    have hl3 := addN_len (ps.getD k (0, 0)).1 (ps.getD k (0, 0)).2 (adjL (ps.take k)) (ps.getD k (0, 0)).2
    refine wo_loop ?_
    repeat (first | intro id | refine goq ?_)
    refine wo_drawn rfl (near_r5 (L := L) hN ha hvs (by omega) hall ?_ ?_ fun t1 vs1 H1 hK1 hvs1 hall1 L1 hs1 => ?_)
    · exact slotq
    · exact slotq
    refine seqO.n (WpO.weak ?_ hs1)
    have k3 : t1.get 3 = some (.sl io 0 N 1 (some N)) := (hK1.ex 3 rfl).trans (by exact slotq)
    have k5 : t1.get 5 = some (.ptr id 0) := (hK1.ex 5 rfl).trans (by exact slotq)
    have k12 : t1.get 12 = some va := (hK1.ex 12 rfl).trans (by exact slotq)
    have k13 : t1.get 13 = some (aint ps.length) := (hK1.ex 13 rfl).trans (by exact slotq)
    have k14 : t1.get 14 = some (aint k) := (hK1.ex 14 rfl).trans (by exact slotq)
    have hK1' : Keep [1, 2, 3] t t1 := Keep.trans (by exact keepq) (hK1.less rfl)
    clear hK1
    refine wo_drawn rfl (near_r6 (L := L) hN hb hvs1 (by omega) hall1 k3 k5 fun t2 vs2 H2 hK2 hvs2 hall2 L2 hs2 => ?_)
    have q3 : t2.get 3 = some (.sl io 0 N 1 (some N)) := (hK2.ex 3 rfl).trans k3
    have q12 : t2.get 12 = some va := (hK2.ex 12 rfl).trans k12
    have q13 : t2.get 13 = some (aint ps.length) := (hK2.ex 13 rfl).trans k13
    have q14 : t2.get 14 = some (aint k) := (hK2.ex 14 rfl).trans k14
    have hK2' : Keep [1, 2, 3] t t2 := Keep.trans hK1' (hK2.less rfl)
    clear hK2 h3 h12 h13 h14 k3 k5 k12 k13 k14
    repeat (first | intro id | refine goq ?_)
    rw [← adjL_take (by omega)] at hall2
    refine WpO.weak (WpO.mono (ih (k + 1) _ vs2 H2 ?_ ?_ ?_ ?_ ?_ hvs2 hall2) ?_) ?_
    · omega
    · exact slotq
    · exact slotq
    · exact slotq
    · exact slotq
    · rintro ex t' L' ⟨e1, e2, e3⟩
      exact ⟨e1, Keep.trans (by exact keepq) e2, e3⟩
    · exact Sub.trans (by exact subq) hs2
end Go.Proofs.Ytfaphhcloanhnaa
namespace Go.Am

section
variable {P : Program} {cf : CallF} {ι ι' : Inj} {S S' : Nat → Prop} {w w' : World}

/-- A step on some of the boxes is one on all. -/
theorem frame_merge {HD H' : Nat → Option Box} {v : AVal} {u : Value} {mR m : Mem} {ids : List Nat} (hm : MRel ι S HD w) (hp : Post ι S mR w v m u ι' S' w')
    (hR : ∀ id, mR.heap.get id = if id ∈ ids then HD id else none) (hids : ∀ id ∈ ids, id < mR.next) (hlow : mR.low = mR.next)
    (hH : ∀ id, H' id = if (mR.next ≤ id ∧ id < m.next) ∨ (m.low < mR.next ∧ id ∈ ids) then m.heap.get id else HD id) :
    MRel ι' S' H' w' ∧ WStep (Own ι HD) w w' ∧ (∀ b, b < w.heap.size → Own ι' H' b → Own ι HD b) := by
  have hown : ∀ b, Own ι mR.heap.get b → Own ι HD b := by
    rintro b ⟨id, bx, o, h1, h2⟩
    rw [hR] at h1
    split at h1
    · exact ⟨id, bx, o, h1, h2⟩
    · simp at h1
  have hcase : ∀ id bx, H' id = some bx → (m.heap.get id = some bx ∧ (id ∈ ids ∨ mR.next ≤ id)) ∨ (HD id = some bx ∧ id ∉ ids) := by
    intro id bx h
    rw [hH] at h
    split at h
    · rename_i hc
      exact .inl ⟨h, hc.elim (fun k => .inr k.1) (fun k => .inl k.2)⟩
    · rename_i hc
      by_cases hi : id ∈ ids
      · left
        have hlt := hids id hi
        have hnl : ¬ m.low < mR.next := fun k => hc (.inr ⟨k, hi⟩)
        rcases hp.grow.same id hlt with k | k
        · omega
        · refine ⟨?_, .inl hi⟩
          rw [k, hR, if_pos hi]
          exact h
      · exact .inr ⟨h, hi⟩
  -- a box that the step did not see
  have hframe : ∀ id bx, HD id = some bx → id ∉ ids → ∃ b o, ι id = some (b, o) ∧ ι' id = some (b, o) ∧ ¬ S b ∧ BoxAt ι S w b o bx ∧ b < w.heap.size ∧ ¬ Own ι mR.heap.get b := by
    intro id bx h hi
    obtain ⟨b, o, h1, h2, h3⟩ := hm.box id bx h
    refine ⟨b, o, h1, hp.inj _ _ h1, h2, h3, h3.lt, ?_⟩
    rintro ⟨id2, bx2, o2, k1, k2⟩
    rw [hR] at k1
    split at k1
    · rename_i hi2
      exact hm.apart id2 id bx2 bx b o2 b o k1 h (fun e => hi (e ▸ hi2)) k2 h1 rfl
    · simp at k1
  have hstep : WStep (Own ι HD) w w' := hp.step.mono fun b hb e => hown b e
  refine ⟨⟨fun id bx h => ?_, fun i j bi bj b o b' o' hi hj hne e1 e2 => ?_, hp.mem.prot⟩, hstep, fun b hb ho => ?_⟩
  · rcases hcase id bx h with ⟨h1, _⟩ | ⟨h1, h2⟩
    · exact hp.mem.box id bx h1
    · obtain ⟨b, o, k1, k2, k3, k4, k5, k6⟩ := hframe id bx h1 h2
      refine ⟨b, o, k2, fun hs => ?_, k4.mono hp.inj hp.prot (fun b hb => hstep.keep b (hm.prot b hb) (hm.notS hb)) hp.step.shape (hp.step.keep b k5 k6)⟩
      rcases hp.fresh b hs with e | e
      · exact k3 e
      · omega
  · have cross : ∀ {i j bi bj b o b' o'}, m.heap.get i = some bi → HD j = some bj → j ∉ ids → ι' i = some (b, o) → ι' j = some (b', o') → b ≠ b' := by
      intro i j bi bj b o b' o' h1 h2 h3 h4 h5 he
      obtain ⟨b2, o2, k1, k2, k3, k4, k5, k6⟩ := hframe j bj h2 h3
      rw [h5] at k2
      cases k2
      subst he
      exact k6 (hp.own _ k5 ⟨i, bi, o, h1, h4⟩)
    rcases hcase i bi hi with ⟨h1, _⟩ | ⟨h1, h2⟩
    · rcases hcase j bj hj with ⟨g1, _⟩ | ⟨g1, g2⟩
      · exact hp.mem.apart i j bi bj b o b' o' h1 g1 hne e1 e2
      · exact cross h1 g1 g2 e1 e2
    · rcases hcase j bj hj with ⟨g1, _⟩ | ⟨g1, g2⟩
      · exact fun e => cross g1 h1 h2 e2 e1 e.symm
      · obtain ⟨b2, o2, k1, k2, _⟩ := hframe i bi h1 h2
        obtain ⟨b3, o3, q1, q2, _⟩ := hframe j bj g1 g2
        rw [e1] at k2; cases k2
        rw [e2] at q2; cases q2
        exact hm.apart i j bi bj _ _ _ _ h1 g1 hne k1 q1
  · obtain ⟨id, bx, o, h1, h2⟩ := ho
    rcases hcase id bx h1 with ⟨g1, _⟩ | ⟨g1, g2⟩
    · exact hown b (hp.own b hb ⟨id, bx, o, g1, h2⟩)
    · obtain ⟨b2, o2, k1, k2, _⟩ := hframe id bx g1 g2
      rw [h2] at k2
      cases k2
      exact ⟨id, bx, o, g1, k1⟩

/-- In the midst of such a region: 'D' have been done. -/
structure Mid (es : List Eff) (s : St) (nt : Nat) (ι0 : Inj) (S0 : Nat → Prop) (w0 : World) (D : Nat → Bool) (ι : Inj) (S : Nat → Prop) (w : World) (a : Act) : Prop where
  slots : SRel ι S w (slotD es s D) a.tmps
  mem : MRel ι S (heapD es s D) w
  size : nt ≤ a.tmps.size
  defers : a.defers = []
  inj : InjLe ι0 ι
  news : ∀ id, ι id ≠ none → ι0 id ≠ none ∨ ∃ (j : Nat) (e : Eff), D j = true ∧ es[j]? = some e ∧ e.lo ≤ id ∧ id < e.hi
  prot : ∀ b, S0 b → S b
  fresh : ∀ b, S b → S0 b ∨ w0.heap.size ≤ b
  step : WStep (Own ι0 s.mem.heap.get) w0 w
  own : ∀ b, b < w0.heap.size → Own ι (heapD es s D) b → Own ι0 s.mem.heap.get b

/-- What an operation did, told of the slots and boxes ahead of it. -/
structure Did (cf : CallF) (o : AO) (e : Eff) (σ : Nat → Option AVal) (η : Nat → Option Box) : Prop where
  dst : e.dst = o.dst
  after : e.after = o.after
  ids : ∀ id ∈ e.ids, id < e.lo
  run : ∃ t : Tr AVal, (∀ x a, t.get x = some a → x ∈ e.reads ∧ σ x = some a) ∧
    ((wantedA t o.guard = some true ∧ ∃ mR m, stepVal cf t mR o.op = some (e.v, m) ∧ mR.next = e.lo ∧ m.next = e.hi ∧
       ((e.see = false ∧ e.all = false ∧ mR.low = mR.next ∧ e.wr = decide (m.low < mR.next) ∧ e.sub = m.heap ∧ ∀ id, mR.heap.get id = if id ∈ e.ids then η id else none) ∨
        (e.see = true ∧ (∀ id, mR.heap.get id = η id) ∧ ((e.all = true ∧ e.sub = m.heap) ∨ (e.all = false ∧ m.heap = mR.heap ∧ e.hi = e.lo ∧ e.wr = false))))) ∨
     (wantedA t o.guard = some false ∧ e.v = .tup [] ∧ e.all = false ∧ e.wr = false ∧ e.hi = e.lo))

/-- Two that are not ordered, the second at place k: 'a' may have made a box that 'b' is told of by a slot (then b comes behind it, whatever the order). -/
def ApartP (es : List Eff) (s : St) (k : Nat) (a b : Eff) : Prop :=
  (∀ d, a.dst = some d → d ∉ b.reads ∧ b.dst ≠ some d) ∧ (∀ d, b.dst = some d → d ∉ a.reads) ∧
  (∀ id, (b.see = true ∨ id ∈ b.ids) → Eff.cov id a = true → a.lo ≤ id ∧ id < a.hi ∧ ∃ x v, x ∈ b.reads ∧ slotD es s (fun j => decide (j < k)) x = some v ∧ id ∈ v.id?) ∧
  (∀ id, (a.see = true ∨ id ∈ a.ids) → Eff.cov id b = false) ∧ (∀ id, Eff.cov id a = true → Eff.cov id b = false)

/-- What was done in the text's order, told of all its steps. -/
structure Laid (cf : CallF) (l : List AO) (s s' : St) (es : List Eff) : Prop where
  len : es.length = l.length
  grow : Grow s.mem s'.mem
  slots : ∀ t, s'.slots.get t = slotD es s (fun _ => true) t
  heap : ∀ id, s'.mem.heap.get id = heapD es s (fun _ => true) id
  at_ : ∀ (i : Nat) e o, es[i]? = some e → l[i]? = some o → Did cf o e (slotD es s fun j => decide (j < i)) (heapD es s fun j => decide (j < i))
  rows : ∀ (i : Nat) e, es[i]? = some e → s.mem.next ≤ e.lo ∧ e.lo ≤ e.hi ∧ e.hi ≤ s'.mem.next ∧ ∀ (j : Nat) e', i < j → es[j]? = some e' → e.hi ≤ e'.lo
  apart : ∀ (i k : Nat) a b, i < k → es[i]? = some a → es[k]? = some b → b.after.testBit i = true ∨ ApartP es s k a b

theorem laid_of (hcf : CfOk P cf) {l : List AO} {s s' : St} (h : drawn cf l s = some s') : ∃ es, Laid cf l s s' es := by
  unfold drawn at h
  split at h
  · rename_i s1 es he
    split at h
    · rename_i ha
      simp only [Option.some.injEq] at h
      subst h
      obtain ⟨h1, h2, h3, h4, h5, h6⟩ := drawOs_spec hcf l _ _ _ he
      have hat : ∀ (i : Nat) e, es[i]? = some e → ∃ o, l[i]? = some o := fun i e hi => by
        have : i < l.length := by have := (List.getElem?_eq_some_iff.1 hi).1; omega
        exact ⟨l[i], by simp [this]⟩
      refine ⟨es, h1, h2, h3, h4, fun i e o hi hl => ?_, fun i e hi => ?_, fun i k a b hik ha' hb => ?_⟩
      · obtain ⟨si, he, hn1, hn2, hsl, hhp⟩ := h5 i e o hi hl
        obtain ⟨e1, e2, e3, e4, e5, ⟨e7, e8⟩, e6⟩ := effO_spec he
        refine ⟨e2, e4, fun id h => e1 ▸ e5 id h, restrict si.slots (slotsOf o), fun x a hx => ?_, ?_⟩
        · rw [restrict_get] at hx
          split at hx
          · rename_i hm
            exact ⟨e3 ▸ hm, (hsl x).symm.trans hx⟩
          · simp at hx
        · rcases e6 with ⟨hw, m, hv, g1, g2, g3, g4⟩ | ⟨hw, g0, g1, g2, g3, g4, g5⟩
          · refine .inl ⟨hw, _, m, hv, e1.symm, g2.symm, .inl ⟨e7, e8, rfl, g1, g4, fun id => ?_⟩⟩
            rw [restrict_get]
            by_cases h : id ∈ e.ids
            · rw [if_pos h, if_pos h, hhp]
            · rw [if_neg h, if_neg h]
          · exact .inr ⟨hw, g0, e8, g2, g3⟩
      · obtain ⟨o, ho⟩ := hat i e hi
        obtain ⟨si, he, hn1, hn2, _⟩ := h5 i e o hi ho
        obtain ⟨k1, k2, k3⟩ := h6 i e hi
        exact ⟨k1, k2, hn2, k3⟩
      · have := (allApart_spec es 0 [] ha).2 i k a b hik ha' hb
        simp only [Nat.zero_add] at this
        refine this.imp id fun hm => ?_
        obtain ⟨m1, m2, m3, m4⟩ := meets_false hm
        obtain ⟨oa, hoa⟩ := hat i a ha'
        obtain ⟨ob, hob⟩ := hat k b hb
        obtain ⟨sa, hea, _⟩ := h5 i a oa ha' hoa
        obtain ⟨sb, heb, _⟩ := h5 k b ob hb hob
        obtain ⟨a1, _, _, _, a5, ⟨a7, a8⟩, _⟩ := effO_spec hea
        obtain ⟨b1, _, _, _, b5, ⟨b7, b8⟩, _⟩ := effO_spec heb
        obtain ⟨r1, r2, r3⟩ := h6 i a ha'
        have r3 := r3 k b hik hb
        refine ⟨m1, m2, fun id hid hc => ?_, fun id hid => ?_, fun id hid => ?_⟩
        · rcases hid with hid | hid
          · rw [b7] at hid; cases hid
          · exfalso
            simp only [Eff.cov, a8, Bool.false_or, Bool.or_eq_true, Bool.and_eq_true, decide_eq_true_eq, List.contains_iff_mem] at hc
            rcases hc with c | c
            · exact m4 id hid c
            · exact m3 (.inl c.1) id c.2 hid
        · rcases hid with hid | hid
          · rw [a7] at hid; cases hid
          · rw [← Bool.not_eq_true]
            intro hc
            simp only [Eff.cov, b8, Bool.false_or, Bool.or_eq_true, Bool.and_eq_true, decide_eq_true_eq, List.contains_iff_mem] at hc
            rcases hc with c | c
            · have := a5 id hid
              omega
            · exact m3 (.inr c.1) id hid c.2
        · rw [← Bool.not_eq_true]
          intro hc
          simp only [Eff.cov, a8, b8, Bool.false_or, Bool.or_eq_true, Bool.and_eq_true, decide_eq_true_eq, List.contains_iff_mem] at hid hc
          rcases hid with c | c
          · rcases hc with d | d
            · omega
            · exact m4 id d.2 c
          · rcases hc with d | d
            · have := a5 id c.2
              omega
            · exact m3 (.inl c.1) id c.2 d.2
    · simp at h
  · simp at h

/-- Done so far, with all that comes ahead of each. -/
def Closed (es : List Eff) (D : Nat → Bool) : Prop := ∀ (j : Nat) e, es[j]? = some e → D j = true → ∀ k, k < es.length → e.after.testBit k = true → D k = true

section
variable {l : List AO} {s s' : St} {es : List Eff} {D : Nat → Bool} {i : Nat} {e : Eff}

theorem agree_slot (hL : Laid cf l s s' es) (hc : Closed es D) (hi : es[i]? = some e) (hD : D i = false) (hb : ∀ k, k < es.length → e.after.testBit k = true → D k = true)
    {t : Nat} (ht : t ∈ e.reads) : slotD es s D t = slotD es s (fun j => decide (j < i)) t := by
  refine lastV_congr _ _ _ _ fun j x hx hh => ?_
  have hlj : j < es.length := (List.getElem?_eq_some_iff.1 hx).1
  have hli : i < es.length := (List.getElem?_eq_some_iff.1 hi).1
  have hd : x.dst = some t := by simpa [Eff.hit] using hh
  rcases Nat.lt_trichotomy j i with h | h | h
  · rw [decide_eq_true h]
    rcases hL.apart j i x e h hx hi with k | k
    · exact hb j hlj k
    · exact absurd ht (k.1 t hd).1
  · subst h
    simp [hD]
  · rw [decide_eq_false (by omega)]
    rcases hL.apart i j e x h hi hx with k | k
    · rw [← Bool.not_eq_true]
      intro hDj
      have := hc j x hx hDj i hli k
      rw [hD] at this
      cases this
    · exact absurd ht (k.2.1 t hd)

theorem rep_id {x : AVal} {v : Value} {id : Nat} (h : Rep ι S w x v) (hi : id ∈ x.id?) : ι id ≠ none := by
  cases h with
  | ptr h => simp [AVal.id?] at hi; subst hi; rw [h]; simp
  | sl h _ _ _ _ => simp [AVal.id?] at hi; subst hi; rw [h]; simp
  | mp h => simp [AVal.id?] at hi; subst hi; rw [h]; simp
  | _ => simp [AVal.id?] at hi

theorem agree_heap {nt : Nat} {ι0 : Inj} {S0 : Nat → Prop} {w0 : World} {a : Act} (hL : Laid cf l s s' es) (hf : ∀ id, s.mem.next ≤ id → id < s'.mem.next → ι0 id = none) (hM : Mid es s nt ι0 S0 w0 D ι S w a) (hc : Closed es D) (hi : es[i]? = some e) (hD : D i = false) (hb : ∀ k, k < es.length → e.after.testBit k = true → D k = true)
    {id : Nat} (ht : e.see = true ∨ id ∈ e.ids) : heapD es s D id = heapD es s (fun j => decide (j < i)) id := by
  refine lastV_congr _ _ _ _ fun j x hx hh => ?_
  have hlj : j < es.length := (List.getElem?_eq_some_iff.1 hx).1
  have hli : i < es.length := (List.getElem?_eq_some_iff.1 hi).1
  rcases Nat.lt_trichotomy j i with h | h | h
  · rw [decide_eq_true h]
    rcases hL.apart j i x e h hx hi with k | k
    · exact hb j hlj k
    · obtain ⟨k1, k2, t, v, k3, k4, k5⟩ := k.2.2.1 id ht hh
      rw [← agree_slot hL hc hi hD hb k3] at k4
      obtain ⟨u, q1, q2⟩ := hM.slots t v k4
      obtain ⟨r1, r2, r4, r3⟩ := hL.rows j x hx
      rcases hM.news id (rep_id q2 k5) with n | ⟨j', x', n1, n2, n3, n4⟩
      · exact absurd (hf id (by omega) (by omega)) n
      · rcases Nat.lt_trichotomy j' j with p | p | p
        · have := (hL.rows j' x' n2).2.2.2 j x p hx
          omega
        · subst p
          exact n1
        · have := r3 j' x' p n2
          omega
  · subst h
    simp [hD]
  · rw [decide_eq_false (by omega)]
    rcases hL.apart i j e x h hi hx with k | k
    · rw [← Bool.not_eq_true]
      intro hDj
      have := hc j x hx hDj i hli k
      rw [hD] at this
      cases this
    · have := k.2.2.2.1 id ht
      rw [hh] at this
      cases this

theorem ins_slot (hL : Laid cf l s s' es) (hc : Closed es D) (hi : es[i]? = some e) (hD : D i = false) (t : Nat) :
    slotD es s (insD D i) t = if Eff.hit t e then some e.v else slotD es s D t := by
  have hli : i < es.length := (List.getElem?_eq_some_iff.1 hi).1
  by_cases hh : Eff.hit t e = true
  · rw [if_pos hh]
    refine lastV_at _ _ _ i e hi (by simp [insD]) hh fun j x hj hx hDj => ?_
    have hDj' : D j = true := by
      simp only [insD, Bool.or_eq_true, beq_iff_eq] at hDj
      rcases hDj with k | k
      · exact k
      · omega
    rcases hL.apart i j e x hj hi hx with k | k
    · have := hc j x hx hDj' i hli k
      rw [hD] at this
      cases this
    · rw [← Bool.not_eq_true]
      intro hx'
      have h1 : e.dst = some t := by simpa [Eff.hit] using hh
      have h2 : x.dst = some t := by simpa [Eff.hit] using hx'
      exact (k.1 t h1).2 h2
  · rw [if_neg hh]
    refine lastV_congr _ _ _ _ fun j x hx hh' => ?_
    simp only [insD]
    by_cases hji : j = i
    · subst hji
      rw [hi] at hx
      cases hx
      exact absurd hh' hh
    · simp [hji]

theorem ins_heap (hL : Laid cf l s s' es) (hc : Closed es D) (hi : es[i]? = some e) (hD : D i = false) (id : Nat) :
    heapD es s (insD D i) id = if Eff.cov id e then e.sub.get id else heapD es s D id := by
  have hli : i < es.length := (List.getElem?_eq_some_iff.1 hi).1
  by_cases hh : Eff.cov id e = true
  · rw [if_pos hh]
    refine lastV_at _ _ _ i e hi (by simp [insD]) hh fun j x hj hx hDj => ?_
    have hDj' : D j = true := by
      simp only [insD, Bool.or_eq_true, beq_iff_eq] at hDj
      rcases hDj with k | k
      · exact k
      · omega
    rcases hL.apart i j e x hj hi hx with k | k
    · have := hc j x hx hDj' i hli k
      rw [hD] at this
      cases this
    · exact k.2.2.2.2 id hh
  · rw [if_neg hh]
    refine lastV_congr _ _ _ _ fun j x hx hh' => ?_
    simp only [insD]
    by_cases hji : j = i
    · subst hji
      rw [hi] at hx
      cases hx
      exact absurd hh' hh
    · simp [hji]

theorem mid_step (hcf : CfOk P cf) {nt : Nat} {ops : Array Oper} {bf : Array Nat} {o : Oper} {ao : AO} {Q : Exit → Act → World → Prop} {ι0 : Inj} {S0 : Nat → Prop} {w0 : World} {a : Act}
    (hL : Laid cf l s s' es) (hf : ∀ id, s.mem.next ≤ id → id < s'.mem.next → ι0 id = none) (hM : Mid es s nt ι0 S0 w0 D ι S w a) (hc : Closed es D)
    (ho : ops[i]? = some o) (hl : l[i]? = some ao) (hco : compAO P nt ops bf i o = some ao) (hi : es[i]? = some e) (hD : D i = false)
    (hb : ∀ k, k < es.length → e.after.testBit k = true → D k = true) {K : Act → World → Prop}
    (hK : ∀ a' w' ι' S', Mid es s nt ι0 S0 w0 (insD D i) ι' S' w' a' → K a' w') : wpOp P ops Q i K a w := by
  obtain ⟨e2, e4, hlt, sl, hsl, e6⟩ := hL.at_ i e ao hi hl
  obtain ⟨c1, c2, c3, c4, c5⟩ := compAO_spec hco
  obtain ⟨r1, r2, hn2, r3⟩ := hL.rows i e hi
  -- the slots that it looks at
  have hs1 : SRel ι S w sl.get a.tmps := by
    intro t x ht
    obtain ⟨q1, q2⟩ := hsl t x ht
    rw [← agree_slot hL hc hi hD hb q1] at q2
    exact hM.slots t x q2
  have hins := ins_slot hL hc hi hD
  have hinh := ins_heap hL hc hi hD
  unfold wpOp
  rw [ho]
  simp only
  rcases e6 with ⟨hw, mR, m, hv, e1, g2, hcase⟩ | ⟨hw, g0, g1, g2, g3⟩
  · rw [wanted_ok (ops := ops) hs1 rfl (c4 ▸ hw), if_pos rfl]
    left
    have hmR : MRel ι S mR.heap.get w := by
      rcases hcase with ⟨k1, k2, k3, k4, k5, k6⟩ | ⟨k1, k2, k3⟩
      · refine hM.mem.less fun id bx h => ?_
        rw [k6] at h
        split at h
        · rename_i hid
          exact (agree_heap hL hf hM hc hi hD hb (.inr hid)).trans h
        · simp at h
      · exact hM.mem.less fun id bx h => (agree_heap hL hf hM hc hi hD hb (.inl k1)).trans ((k2 id).symm.trans h)
    have hfr : ∀ id, mR.next ≤ id → id < m.next → ι id = none := by
      intro id h1 h2
      apply Classical.byContradiction
      intro hne
      rcases hM.news id hne with k | ⟨j, x, k1, k2, k3, k4⟩
      · exact k (hf id (by omega) (by omega))
      · rcases Nat.lt_trichotomy j i with h | h | h
        · have := (hL.rows j x k2).2.2.2 i e h hi
          omega
        · subst h
          rw [hD] at k1
          cases k1
        · have := r3 j x h k2
          omega
    refine step_wp hcf c1 hv hs1 hmR hfr fun u w' ι' S' hp => hK _ _ ι' S' ?_
    obtain ⟨q1, q2, q3⟩ : MRel ι' S' (heapD es s (insD D i)) w' ∧ WStep (Own ι (heapD es s D)) w w' ∧ (∀ b, b < w.heap.size → Own ι' (heapD es s (insD D i)) b → Own ι (heapD es s D) b) := by
      rcases hcase with ⟨k1, k2, k3, k4, k5, k6⟩ | ⟨k1, k2, k3⟩
      · refine frame_merge (H' := heapD es s (insD D i)) (ids := e.ids) hM.mem hp (fun id => ?_) (fun id h => e1 ▸ hlt id h) k3 (fun id => ?_)
        · rw [k6]
          by_cases h : id ∈ e.ids
          · rw [if_pos h, if_pos h, agree_heap hL hf hM hc hi hD hb (.inr h)]
          · rw [if_neg h, if_neg h]
        · rw [hinh id]
          have : (Eff.cov id e = true) ↔ ((mR.next ≤ id ∧ id < m.next) ∨ (m.low < mR.next ∧ id ∈ e.ids)) := by
            unfold Eff.cov
            rw [k2, k4, e1, g2]
            simp
          simp only [this, k5]
      · have hse : ∀ id, mR.heap.get id = heapD es s D id := fun id => (k2 id).trans (agree_heap hL hf hM hc hi hD hb (.inl k1)).symm
        have hH : ∀ id, heapD es s (insD D i) id = m.heap.get id := by
          intro id
          rw [hinh id]
          rcases k3 with ⟨n1, n2⟩ | ⟨n1, n2, n3, n4⟩
          · rw [if_pos (by simp [Eff.cov, n1]), n2]
          · rw [if_neg, n2, hse]
            simp only [Eff.cov, n1, n3, n4]
            simp
        have e1 : mR.heap.get = heapD es s D := funext hse
        have e2 : heapD es s (insD D i) = m.heap.get := funext hH
        rw [e2, ← e1]
        exact ⟨hp.mem, hp.step, hp.own⟩
    have hcomp : WStep (Own ι0 s.mem.heap.get) w0 w' := (hM.step.trans q2).mono fun b hb' k => by
      rcases k with k | k
      · exact k
      · exact hM.own b hb' k.1
    refine ⟨?_, q1, by rw [put_size]; exact hM.size, by rw [put_defers]; exact hM.defers, hM.inj.trans hp.inj, fun id hne => ?_, fun b hb' => hp.prot b (hM.prot b hb'), fun b hb' => ?_, hcomp, fun b hb' k => ?_⟩
    · have hup : SRel ι' S' w' (slotD es s D) a.tmps := fun t x ht => by
        obtain ⟨u', k1, k2⟩ := hM.slots t x ht
        exact ⟨u', k1, k2.up hM.mem hp.inj hp.prot q2 (fun b hb' => hM.mem.notS hb')⟩
      intro t x ht
      rw [hins] at ht
      cases hd : o.dst with
      | none =>
        have : Eff.hit t e = false := by simp [Eff.hit, e2, c2, hd]
        rw [this] at ht
        simp only [Bool.false_eq_true, if_false] at ht
        obtain ⟨u', k1, k2⟩ := hup t x ht
        exact ⟨u', by simpa [Act.put] using k1, k2⟩
      | some d =>
        by_cases htd : d = t
        · subst htd
          have : Eff.hit d e = true := by simp [Eff.hit, e2, c2, hd]
          rw [this] at ht
          simp only [if_true, Option.some.injEq] at ht
          subst ht
          have hsz := Nat.lt_of_lt_of_le (c3 d hd) hM.size
          exact ⟨u, by simp [Act.put, hsz], hp.rep⟩
        · have : Eff.hit t e = false := by simp [Eff.hit, e2, c2, hd, htd]
          rw [this] at ht
          simp only [Bool.false_eq_true, if_false] at ht
          obtain ⟨u', k1, k2⟩ := hup t x ht
          exact ⟨u', by simp only [Act.put]; rw [Array.getElem?_setIfInBounds_ne htd]; exact k1, k2⟩
    · rcases hp.news id hne with k | k
      · rcases hM.news id k with h | ⟨j, x, k1, k2, k3, k4⟩
        · exact .inl h
        · exact .inr ⟨j, x, by simp [insD, k1], k2, k3, k4⟩
      · exact .inr ⟨i, e, by simp [insD], hi, by rw [← e1]; exact k.1, by rw [← g2]; exact k.2⟩
    · rcases hp.fresh b hb' with k | k
      · exact hM.fresh b k
      · exact .inr (Nat.le_trans hM.step.size k)
    · exact hM.own b hb' (q3 b (Nat.lt_of_lt_of_le hb' hM.step.size) k)
  · rw [wanted_ok (ops := ops) hs1 rfl (c4 ▸ hw)]
    simp only [Bool.false_eq_true, if_false]
    refine hK _ _ ι S ?_
    have hsame : ∀ id, heapD es s (insD D i) id = heapD es s D id := by
      intro id
      rw [hinh id, if_neg]
      simp only [Eff.cov, g1, g2, g3]
      simp
      skip
    refine ⟨?_, ?_, by rw [put_size]; exact hM.size, by rw [put_defers]; exact hM.defers, hM.inj, fun id hne => ?_, hM.prot, hM.fresh, hM.step, fun b hb' k => ?_⟩
    · intro t x ht
      rw [hins] at ht
      cases hd : o.dst with
      | none =>
        have : Eff.hit t e = false := by simp [Eff.hit, e2, c2, hd]
        rw [this] at ht
        simp only [Bool.false_eq_true, if_false] at ht
        obtain ⟨u', k1, k2⟩ := hM.slots t x ht
        exact ⟨u', by simpa [Act.put] using k1, k2⟩
      | some d =>
        by_cases htd : d = t
        · subst htd
          have : Eff.hit d e = true := by simp [Eff.hit, e2, c2, hd]
          rw [this] at ht
          simp only [if_true, Option.some.injEq] at ht
          subst ht
          have hsz := Nat.lt_of_lt_of_le (c3 d hd) hM.size
          exact ⟨undef, by simp [Act.put, hsz], by rw [g0]; exact .tup rfl (fun j c v hc => by simp at hc)⟩
        · have : Eff.hit t e = false := by simp [Eff.hit, e2, c2, hd, htd]
          rw [this] at ht
          simp only [Bool.false_eq_true, if_false] at ht
          obtain ⟨u', k1, k2⟩ := hM.slots t x ht
          exact ⟨u', by simp only [Act.put]; rw [Array.getElem?_setIfInBounds_ne htd]; exact k1, k2⟩
    · exact hM.mem.less fun id bx h => (hsame id).symm.trans h
    · rcases hM.news id hne with h | ⟨j, x, k1, k2, k3, k4⟩
      · exact .inl h
      · exact .inr ⟨j, x, by simp [insD, k1], k2, k3, k4⟩
    · obtain ⟨id, bx, o', h1, h2⟩ := k
      exact hM.own b hb' ⟨id, bx, o', (hsame id).symm.trans h1, h2⟩
end
end
end Go.Am
