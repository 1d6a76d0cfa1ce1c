/- Parts of the proof, joined by program: RwR4, RwR5, RwR6, RwP3, RwP4, RwP5, RwP6, RwFR, RwP7, RwP8, RwQ1, RwQ2, RwM1, RwT1, RwU0, AmStay. -/
import Derived.Test.YtmflheoafeenfaaGreatPa20
import Derived.Test.YtmflheoafeenfaaGreatPa21
import Derived.Test.YtmflheoafeenfaaGreatPa8
import Derived.Test.YtmflheoafeenfaaGreatPa16
set_option linter.unusedSimpArgs false
set_option linter.unusedVariables false
namespace Go.Proofs.YtmflheoafeenfaaGreat
open Go.Am
set_option maxRecDepth 4000
set_option maxHeartbeats 8000000
variable {E : Env} {L : Hp}
theorem OpsC.append {cs ds : List AVal} {os ps : List OpD} (h : OpsC cs os) (k : OpsC ds ps) : OpsC (cs ++ ds) (os ++ ps) := by
  induction h with
  | nil => exact k
  | cons hq hb h ih => rw [List.append_assoc, List.cons_append]; exact .cons hq hb ih
theorem OpsC.drop {cs : List AVal} {os : List OpD} (h : OpsC cs os) : ∀ k, OpsC (cs.drop (k * 6)) (os.drop k) := by
  induction h with
  | nil => intro k; simp; exact .nil
  | @cons q o cs os hq hb h ih =>
    intro k
    cases k with
    | zero => simpa using OpsC.cons hq hb h
    | succ k =>
      have e : (opCells q o ++ cs).drop ((k + 1) * 6) = cs.drop (k * 6) := by
        have : (k + 1) * 6 = (opCells q o).length + k * 6 := by simp [opCells]; omega
        rw [this, List.drop_append, Nat.add_sub_cancel_left, List.drop_of_length_le (by omega), List.nil_append]
      rw [e, List.drop_succ_cons]
      exact ih k
theorem OpsC.take {cs : List AVal} {os : List OpD} (h : OpsC cs os) : ∀ k, OpsC (cs.take (k * 6)) (os.take k) := by
  induction h with
  | nil => intro k; simp; exact .nil
  | @cons q o cs os hq hb h ih =>
    intro k
    cases k with
    | zero => simpa using OpsC.nil
    | succ k =>
      have e : (opCells q o ++ cs).take ((k + 1) * 6) = opCells q o ++ cs.take (k * 6) := by
        have : (k + 1) * 6 = (opCells q o).length + k * 6 := by simp [opCells]; omega
        rw [this, List.take_append, Nat.add_sub_cancel_left, List.take_of_length_le (by omega)]
      rw [e, List.take_succ_cons]
      exact .cons hq hb (ih k)
theorem OpsC.erase {cs : List AVal} {os : List OpD} (h : OpsC cs os) (k : Nat) : OpsC (cs.take (k * 6) ++ cs.drop ((k + 1) * 6)) (os.eraseIdx k) := by
  rw [List.eraseIdx_eq_take_drop_succ]
  exact (h.take k).append (h.drop (k + 1))
theorem OpsC.one {cs : List AVal} {os : List OpD} (h : OpsC cs os) : cs.all AVal.one = true := by
  induction h with
  | nil => rfl
  | @cons q o cs os hq hb h ih =>
    rw [List.all_append, ih]
    have hq1 := RowA.isOne hq
    simp only [opCells, List.all_cons, List.all_nil, hq1, Bool.and_true]
    rfl
theorem OpsC.viewL {k : Nat} {cs : List AVal} {os : List OpD} (h : OpsC cs os) : ViewL L (k + 1) cs cs := by
  induction h with
  | nil => exact vl_nil
  | @cons q o cs os hq hb h ih =>
    exact vl_app (vl_cons vo_sc (vl_cons vo_sc (vl_cons (vo_bareI hq) (vl_cons vo_sc (vl_cons vo_sc (vl_cons vo_sc vl_nil)))))) ih
end Go.Proofs.YtmflheoafeenfaaGreat
namespace Go.Proofs.YtmflheoafeenfaaGreat
open Go.Am
set_option maxRecDepth 4000
set_option maxHeartbeats 8000000
variable {E : Env} {L : Hp}
end Go.Proofs.YtmflheoafeenfaaGreat
namespace Go.Proofs.YtmflheoafeenfaaGreat
open Go.Am
set_option maxRecDepth 4000
set_option maxHeartbeats 8000000
variable {E : Env} {L : Hp}
def zeroC : List AVal := [aint 0, aint 0, anil]
/-- What Order tells, in rows that stay. -/
def OrdA (c : CircD) (r : AVal) : Prop := (¬ CircOk c ∧ r = .tup [.agg zeroC, aint 80]) ∨ (CircOk c ∧ ∃ s, r = .tup [.agg [aint c.qubits, aint c.bits, s], aint 0] ∧ OpsA s (ordL c.ops))
theorem vo_zeroC {e : Int} {M : Hp} : ViewO M 64 (.tup [.agg zeroC, aint e]) (.tup [.agg zeroC, aint e]) := vo_tup (vl_cons (vo_agg (vl_cons vo_sc (vl_cons vo_sc (vl_cons vo_sc vl_nil)))) (vl_cons vo_sc vl_nil))
/-- Whether two circuits come to the same order. -/
def ReoR (c d : CircD) (r : AVal) : Prop := (¬ (CircOk c ∧ CircOk d) ∧ r = .tup [abool false, aint 80]) ∨ (CircOk c ∧ CircOk d ∧ ∃ x, r = .tup [abool x, aint 0] ∧ (x = true ↔ (⟨c.qubits, c.bits, ordL c.ops⟩ : CircD) = ⟨d.qubits, d.bits, ordL d.ops⟩))
theorem OrdA.shape {c : CircD} {r : AVal} (h : OrdA c r) : ∃ (q b e : Int) (s : AVal) (os : List OpD), r = .tup [.agg [aint q, aint b, s], aint e] ∧ OpsA s os ∧ ((¬ CircOk c ∧ e = 80) ∨ (CircOk c ∧ e = 0 ∧ q = c.qubits ∧ b = c.bits ∧ os = ordL c.ops)) := by
  rcases h with ⟨h, rfl⟩ | ⟨h, s, rfl, hs⟩
  · exact ⟨0, 0, 80, anil, [], rfl, ⟨[], .inl ⟨rfl, rfl, rfl⟩, .nil, by simp⟩, .inl ⟨h, rfl⟩⟩
  · exact ⟨_, _, 0, s, _, rfl, hs, .inr ⟨h, rfl, rfl, rfl, rfl⟩⟩
end Go.Proofs.YtmflheoafeenfaaGreat
namespace Go.Proofs.YtmflheoafeenfaaGreat
open Go.Am
set_option maxRecDepth 4000
set_option maxHeartbeats 16000000
variable {E : Env} {L : Hp}
/-- Operations in boxes, by their numbers. -/
structure OpsF (cs : List AVal) (os : List OpD) (H : Hp) (u : Nat → AVal) (Bf : Nat → Hp) : Prop where
  len : cs.length = os.length * 6
  seg : ∀ k, k < os.length → seg cs (0 + k * 6) 6 = some (opCells (u k) (gO os k))
  own : ∀ k, k < os.length → OwnI (u k) (gO os k).qs (Bf k)
  ql : ∀ k, k < os.length → (gO os k).qs.length < 2 ^ 62
  H : H = (List.range os.length).flatMap Bf
theorem flatMap_congr' {α β : Type} {f g : α → List β} : ∀ {l : List α}, (∀ x ∈ l, f x = g x) → l.flatMap f = l.flatMap g
  | [], _ => rfl
  | x :: l, h => by rw [List.flatMap_cons, List.flatMap_cons, h x (by simp), flatMap_congr' (fun y hy => h y (by simp [hy]))]
theorem OpsB.fn {cs : List AVal} {os : List OpD} {H : Hp} (h : OpsB cs os H) : ∃ u Bf, OpsF cs os H u Bf := by
  induction h with
  | nil => exact ⟨fun _ => anil, fun _ => [], rfl, fun k hk => by simp at hk, fun k hk => by simp at hk, fun k hk => by simp at hk, rfl⟩
  | @snoc cs os H B u o h hq hb ih =>
    obtain ⟨u0, Bf, ih⟩ := ih
    have hl := ih.len
    have g1 : ∀ k, k < os.length → gO (os ++ [o]) k = gO os k := fun k hk => by simp [gO, List.getElem?_append_left hk]
    have g2 : gO (os ++ [o]) os.length = o := by simp [gO]
    refine ⟨fun k => if k = os.length then u else u0 k, fun k => if k = os.length then B else Bf k, ?_, ?_, ?_, ?_, ?_⟩
    · simp [hl, opCells]; omega
    · intro k hk
      by_cases e : k = os.length
      · subst e
        rw [if_pos rfl, g2, Am.seg, if_pos (by simp [hl, opCells]), Nat.zero_add, ← hl, List.drop_left]
        simp [opCells]
      · have hk2 : k < os.length := by simp at hk; omega
        rw [if_neg e, g1 k hk2]
        have hs := ih.seg k hk2
        unfold Am.seg at hs ⊢
        split at hs
        · rename_i hle
          rw [if_pos (by simp; omega), List.drop_append_of_le_length (by omega), List.take_append_of_le_length (by simp; omega)]
          exact hs
        · cases hs
    · intro k hk
      by_cases e : k = os.length
      · subst e
        rw [if_pos rfl, if_pos rfl, g2]
        exact hq
      · have hk2 : k < os.length := by simp at hk; omega
        rw [if_neg e, if_neg e, g1 k hk2]
        exact ih.own k hk2
    · intro k hk
      by_cases e : k = os.length
      · subst e
        rw [g2]
        exact hb
      · have hk2 : k < os.length := by simp at hk; omega
        rw [g1 k hk2]
        exact ih.ql k hk2
    · rw [List.length_append, List.length_singleton, List.range_succ, List.flatMap_append, ih.H]
      congr 1
      · refine flatMap_congr' fun x hx => ?_
        rw [if_neg (by have := List.mem_range.1 hx; omega)]
      · simp
theorem OpsF.box {cs : List AVal} {os : List OpD} {H : Hp} {u : Nat → AVal} {Bf : Nat → Hp} (h : OpsF cs os H u Bf) {k : Nat} (hk : k < os.length) : ∀ id c, In id c (Bf k) → In id c H := by
  intro id c hi
  rw [h.H]
  have : ∀ (l : List Nat), k ∈ l → In id c (l.flatMap Bf) := by
    intro l
    induction l with
    | nil => intro h; simp at h
    | cons x l ih =>
      intro hm
      rw [List.flatMap_cons]
      rcases List.mem_cons.1 hm with rfl | hm
      · exact hi.appl
      · exact (ih hm).app
  exact this _ (List.mem_range.2 hk)
theorem OwnI.views {v : AVal} {o : OpD} {B : Hp} (h : OwnI v o.qs B) : ∃ q, SlI q o.qs ∧ ∀ M : Hp, (∀ id c, In id c B → In id c M) → ∀ vs us, ViewsO M vs us → ViewsO M (.agg (opCells v o) :: vs) (opV q o :: us) := by
  rcases h with ⟨rfl, e, rfl⟩ | ⟨id, cap, rfl, rfl⟩
  · have hq : SlI anil o.qs := by rw [e]; exact .inl ⟨rfl, rfl, rfl⟩
    exact ⟨anil, hq, fun M _ vs us hv => vs_bare (bare_opV hq) hv⟩
  · refine ⟨.rs (o.qs.map aint) o.qs.length cap, .inr ⟨cap, rfl⟩, fun M hM vs us hv => vs_view rfl ?_ hv⟩
    exact vo_agg (vl_cons vo_sc (vl_cons vo_sc (vl_cons (vo_sl (hM _ _ .here) (by rw [Nat.mul_one]; exact seg_full (by simp)) (vl_sc (sc_ints o.qs))) (vl_cons vo_sc (vl_cons vo_sc (vl_cons vo_sc vl_nil))))))
end Go.Proofs.YtmflheoafeenfaaGreat
namespace Go.Proofs.YtmflheoafeenfaaGreat
open Go.Am
set_option maxRecDepth 4000
set_option maxHeartbeats 16000000
variable {E : Env} {L : Hp}
end Go.Proofs.YtmflheoafeenfaaGreat
namespace Go.Proofs.YtmflheoafeenfaaGreat
open Go.Am
set_option maxRecDepth 4000
set_option maxHeartbeats 16000000
variable {E : Env} {L : Hp}
/-- What Order tells, in boxes of its own. -/
def OrdO (c : CircD) (r : AVal) (B : Hp) : Prop := (¬ CircOk c ∧ r = .tup [.agg zeroC, aint 80] ∧ B = []) ∨ (CircOk c ∧ ∃ v, r = .tup [v, aint 0] ∧ CircO v ⟨c.qubits, c.bits, ordL c.ops⟩ B)
end Go.Proofs.YtmflheoafeenfaaGreat
namespace Go.Proofs.YtmflheoafeenfaaGreat
open Go.Am
set_option maxRecDepth 4000
set_option maxHeartbeats 16000000
variable {E : Env} {L : Hp}
end Go.Proofs.YtmflheoafeenfaaGreat
namespace Go.Proofs.YtmflheoafeenfaaGreat
open Go.Am
set_option maxRecDepth 4000
set_option maxHeartbeats 8000000
variable {E : Env} {L : Hp}
/-! A copied circuit, from the front -/
inductive OpsS (cs : List AVal) (os : List OpD) : Nat → Hp → Prop where
  | done : OpsS cs os os.length []
  | more {k : Nat} {u : AVal} {B H : Hp} (hk : k < os.length) (hs : seg cs (0 + k * 6) 6 = some (opCells u (os.getD k default))) (hq : OwnI u (os.getD k default).qs B) (h : OpsS cs os (k + 1) H) : OpsS cs os k (B ++ H)
theorem OpsS.ext {cs : List AVal} {os : List OpD} {k : Nat} {H B : Hp} {u : AVal} {o : OpD} (hl : cs.length = os.length * 6) (h : OpsS cs os k H) (hq : OwnI u o.qs B) : OpsS (cs ++ opCells u o) (os ++ [o]) k (H ++ B) := by
  induction h with
  | done =>
    have e : (os ++ [o]).getD os.length default = o := by simp
    have := OpsS.more (cs := cs ++ opCells u o) (os := os ++ [o]) (k := os.length) (u := u) (B := B) (H := []) (by simp) (by
      rw [e, seg, if_pos (by simp [hl, opCells]), Nat.zero_add, ← hl, List.drop_left]
      simp [opCells]) (by rw [e]; exact hq) (by have := OpsS.done (cs := cs ++ opCells u o) (os := os ++ [o]); simpa using this)
    simpa using this
  | @more k u' B' H' hk hs hq' h ih =>
    have e : (os ++ [o]).getD k default = os.getD k default := by simp [List.getElem?_append_left hk]
    rw [List.append_assoc]
    refine .more (u := u') (by simp; omega) ?_ (by rw [e]; exact hq') ih
    rw [e]
    unfold seg at hs ⊢
    split at hs
    · rename_i hle
      rw [if_pos (by simp; omega), List.drop_append_of_le_length (by omega), List.take_append_of_le_length (by simp; omega)]
      exact hs
    · cases hs
theorem OpsB.front {cs : List AVal} {os : List OpD} {H : Hp} (h : OpsB cs os H) : OpsS cs os 0 H := by
  induction h with
  | nil => exact .done
  | snoc h hq hb ih => exact ih.ext h.one hq
theorem seg_get {cs r : List AVal} {off n i : Nat} (h : seg cs off n = some r) (hi : i < n) : cs[off + i]? = r[i]? := by
  unfold seg at h
  split at h
  · simp only [Option.some.injEq] at h
    subst h
    rw [List.getElem?_take, if_pos hi, List.getElem?_drop]
  · cases h
theorem OpsB.lens {cs : List AVal} {os : List OpD} {H : Hp} (h : OpsB cs os H) : ∀ k, k < os.length → (os.getD k default).qs.length < 2 ^ 62 := by
  induction h with
  | nil => intro k hk; simp at hk
  | @snoc cs os H B u o h hq hb ih =>
    intro k hk
    rcases Nat.lt_or_ge k os.length with h1 | h1
    · have := ih k h1
      simpa [List.getElem?_append_left h1] using this
    · have : k = os.length := by simp at hk; omega
      subst this
      simpa using hb
theorem OpsS.set {cs : List AVal} {os : List OpD} {k i : Nat} {H : Hp} {v : AVal} (h : OpsS cs os k H) (hi : i < k * 6) : OpsS (cs.set i v) os k H := by
  induction h with
  | done => exact .done
  | @more k u B H hk hs hq h ih =>
    refine .more (u := u) hk ?_ hq (ih (by omega))
    unfold seg at hs ⊢
    rw [List.length_set]
    split at hs
    · rename_i hle
      rw [if_pos hle]
      rw [List.drop_set_of_lt (by omega)]
      exact hs
    · cases hs
theorem CircO.views {v : AVal} {c : CircD} {B M : Hp} (h : CircO v c B) (hM : ∀ id c, In id c B → In id c M) : ∃ u, CircA u c ∧ ∀ vs us, ViewsO M vs us → ViewsO M (v :: vs) (u :: us) := by
  have h0 := h
  obtain ⟨s, cs, Bs, H, rfl, hb, ho, hlt, rfl⟩ := h
  rcases bufInv hb with ⟨rfl, -, e, -⟩ | ⟨id, rfl, -⟩
  · have e3 : c.ops = [] := List.eq_nil_of_length_eq_zero e
    exact ⟨_, ⟨anil, rfl, [], .inl ⟨rfl, e, rfl⟩, by rw [e3]; exact .nil, by omega⟩, fun vs us hv => vs_bare rfl hv⟩
  · obtain ⟨u, h1, h2⟩ := h0.view 60 hM
    exact ⟨u, h2, fun vs us hv => vs_view rfl h1 hv⟩
end Go.Proofs.YtmflheoafeenfaaGreat
namespace Go.Proofs.YtmflheoafeenfaaGreat
open Go.Am
set_option maxRecDepth 4000
set_option maxHeartbeats 16000000
variable {E : Env} {L : Hp}
/-- The loop that writes one operation's qubits over. -/
theorem own_l0 {i4 ic iq m k : Nat} {n bt : Int} {cap : Option Nat} {cs : List AVal} {ql : List Int} (hkm : k < m) (hc2 : cs[0 + k * 6 + 2]? = some (.sl iq 0 ql.length 1 cap)) (hlt : ql.length < 2 ^ 62) :
    ∀ (d j : Nat) (t : Tr AVal) (l : List Int), d + j = ql.length → l.length = ql.length → t.get 4 = some (.ptr i4 0) → t.get 7 = some (aint k) → t.get 8 = some (aint j) →
    WpO E (.loop c_phasorlaw18_own_l0) t ((i4, [aint n, aint bt, .sl ic 0 m 6 none]) :: (ic, cs) :: (iq, l.map aint) :: L) (fun ex t' L' => ex = .exit 2 ∧ Keep [3, 4, 5, 7] t t' ∧ Am.Sub ((i4, [aint n, aint bt, .sl ic 0 m 6 none]) :: (ic, cs) :: L) L') := by
  have hl6 : 0 + k * 6 + 2 < cs.length := (List.getElem?_eq_some_iff.1 hc2).1
  intro d
  induction d with
  | zero =>
    intro j t l hj hl h4 h7 h8
    obtain rfl : j = ql.length := by omega
    refine wo_loop ?_
    repeat (first | intro id | refine goq ?_)
    exact ⟨rfl, by exact keepq, by exact subq⟩
  | succ d ih =>
    intro j t l hj hl h4 h7 h8
    refine wo_loop ?_
    repeat (first | intro id | refine goq ?_)
    refine WpO.mono (ih (j + 1) _ (l.set j (-9)) (by omega) (by simp [hl]) ?_ ?_ ?_) ?_
    · exact slotq
    · exact slotq
    · exact slotq
    · rintro ex t' L' ⟨e1, e2, e3⟩
      exact ⟨e1, Keep.trans (by exact keepq) e2, e3⟩
theorem own_l1 {i4 ic : Nat} {n bt : Int} {os : List OpD} (hlt : os.length ≤ 1000000) (hql : ∀ k, k < os.length → (os.getD k default).qs.length < 2 ^ 62) :
    ∀ (d k : Nat) (t : Tr AVal) (cs : List AVal) (H : Hp), d + k = os.length → cs.length = os.length * 6 → OpsS cs os k H → t.get 4 = some (.ptr i4 0) → t.get 7 = some (aint k) →
    WpO E (.loop c_phasorlaw18_own_l1) t ((i4, [aint n, aint bt, .sl ic 0 os.length 6 none]) :: (ic, cs) :: (H ++ L)) (fun ex t' L' => ex = .exit 0 ∧ Keep [3, 5] t t' ∧ Am.Sub L L') := by
  intro d
  induction d with
  | zero =>
    intro k t cs H hk hcl hS h4 h7
    obtain rfl : k = os.length := by omega
    refine wo_loop ?_
    repeat (first | intro id | refine goq ?_)
    exact ⟨rfl, by exact keepq, by exact subq⟩
  | succ d ih =>
    intro k t cs H hk hcl hS h4 h7
    have hkl : k < os.length := by omega
    have hqk := hql k hkl
    cases hS with
    | done => omega
    | @more _ u Bq H' _ hs hown hS' =>
    have hc2 : cs[0 + k * 6 + 2]? = some u := by rw [seg_get hs (by omega)]; rfl
    have hl6 : 0 + k * 6 + 2 < cs.length := (List.getElem?_eq_some_iff.1 hc2).1
    have hS2 : ∀ v, OpsS (cs.set (k * 6 + 1) v) os (k + 1) H' := fun v => hS'.set (by omega)
    refine wo_loop ?_
    repeat (first | intro id | refine goq ?_)
    refine WpO.mono (Q := fun ex t' L' => ex = .exit 2 ∧ Keep [3, 4, 5, 7] t t' ∧ Am.Sub ((i4, [aint n, aint bt, .sl ic 0 os.length 6 none]) :: (ic, cs) :: (H' ++ L)) L') ?_ ?_
    · rcases hown with ⟨rfl, hq0, rfl⟩ | ⟨iq, cap, rfl, rfl⟩
      · refine wo_loop ?_
        repeat (first | intro id | refine goq ?_)
        exact ⟨rfl, by exact keepq, by exact subq⟩
      · refine WpO.weak (WpO.mono (own_l0 (L := H' ++ L) (i4 := i4) (ic := ic) (n := n) (bt := bt) hkl hc2 hqk (os.getD k default).qs.length 0 _ (os.getD k default).qs (by omega) rfl ?_ ?_ ?_) ?_) ?_
        · exact slotq
        · exact slotq
        · exact slotq
        · rintro ex t1 L' ⟨e1, e2, e3⟩
          exact ⟨e1, Keep.trans (by exact keepq) e2, e3⟩
        · exact subq
    · rintro ex t1 L' ⟨rfl, hK, hsub⟩
      have g4 := (hK.ex 4 rfl).trans h4
      have g7 := (hK.ex 7 rfl).trans h7
      have hK2 : Keep [3, 5] t t1 := hK.less rfl
      refine blkO.x (seqO.n (WpO.weak ?_ hsub))
      repeat (first | intro id | refine goq ?_)
      refine WpO.weak (WpO.mono (ih (k + 1) _ (cs.set (k * 6 + 1) (.sc (.int .i64 77))) H' (by omega) (by simp [hcl]) (hS2 _) ?_ ?_) ?_) (by exact subq)
      · exact slotq
      · exact slotq
      · rintro ex t' L' ⟨e1, e2, e3⟩
        exact ⟨e1, Keep.trans (by exact keepq) e2, e3⟩
theorem own_ok (hF : E.fns = fnsT) (hm : E.mode f_phasorlaw18_own = .open_) (hmS : E.mode f_phasorref08_Same = .iso false) (hmso : E.mode f_phasorref08_SameOp = .iso false) (hmin : E.mode f_phasorref08_ints = .iso false) (hstS : still E c_phasorref08_Same_r5 = true)
    {v w kv : AVal} {c d : CircD} {B : Hp} (hv : CircA v c) (hk : CircA kv c) (hw : CircO w d B) (hd : d.ops.length ≤ 1000000) : CallO E f_phasorlaw18_own [v, w, kv] (B ++ L) fun r L' => r = abool true ∧ L' = L := by
  refine CallO.to (callO_open hm (fns_of hF n_phasorlaw18_own) ?_)
  have hv0 := hv
  have hk0 := hk
  obtain ⟨sv, rfl, hvo⟩ := hv
  obtain ⟨sk, rfl, hko⟩ := hk
  have hsv1 : sv.one = true := by obtain ⟨_, hr, -, -⟩ := hvo; exact RowA.isOne hr
  have hsk1 : sk.one = true := by obtain ⟨_, hr, -, -⟩ := hko; exact RowA.isOne hr
  obtain ⟨s, cs, Bs, H, rfl, hb, ho, hlt, rfl⟩ := hw
  have s1 := hb.isOne
  refine bodyO_of (Nat.le_of_ble_eq_true rfl) ?_; generalize ht : argSlots _ 0 .nil = t; have h0 : t.get 0 = some _ := (by rw [← ht]; rfl); have h1 : t.get 1 = some _ := (by rw [← ht]; rfl); have h2 : t.get 2 = some _ := (by rw [← ht]; rfl); clear ht
  repeat (first | intro id | refine goq ?_)
  rename_i i3 i4
  refine WpO.mono (Q := fun ex t' L' => ex = .exit 0 ∧ t'.get 3 = some (.ptr i3 0) ∧ t'.get 5 = some (.ptr id 0) ∧ Am.Sub ((id, [aint c.qubits, aint c.bits, sk]) :: (i3, [aint c.qubits, aint c.bits, sv]) :: L) L') ?_ ?_
  · rcases bufInv hb with ⟨rfl, hcs0, hn0, rfl⟩ | ⟨ic, rfl, rfl⟩
    · refine wo_loop ?_
      repeat (first | intro id | refine goq ?_)
      exact ⟨rfl, by exact slotq, by exact slotq, by exact subq⟩
    · refine WpO.weak (WpO.mono (own_l1 (L := (id, [aint c.qubits, aint c.bits, sk]) :: (i3, [aint c.qubits, aint c.bits, sv]) :: L) (i4 := i4) (ic := ic) (n := d.qubits) (bt := d.bits) hd ho.lens d.ops.length 0 _ cs H (by omega) ho.one ho.front ?_ ?_) ?_) ?_
      · exact slotq
      · exact slotq
      · rintro ex t1 L' ⟨rfl, hK, hsub⟩
        refine ⟨rfl, (hK.ex 3 rfl).trans ?_, (hK.ex 5 rfl).trans ?_, hsub⟩
        · exact slotq
        · exact slotq
      · simp only [List.append_assoc]
        exact subq
  · rintro ex t1 L' ⟨rfl, g3, g5, hsub⟩
    refine blkO.x (seqO.n (WpO.weak ?_ hsub))
    repeat (first | intro id | refine goq ?_)
    refine gok ?_
    refine (Same8_ok hF hmS hmso hmin hstS (vs_bare hv0.bare (vs_bare hk0.bare vs_nil)) hv0 hk0).mono ?_
    rintro r L' ⟨⟨x, rfl, hx⟩, rfl⟩
    cases x with
    | false => have := hx.2 rfl; cases this
    | true =>
      repeat (first | intro id | refine goq ?_)
      ((first | apply retO_r | apply retO_n); (focus (exact resq)))
      exact ⟨L, by exact subq, rfl, rfl⟩
end Go.Proofs.YtmflheoafeenfaaGreat
namespace Go.Proofs.YtmflheoafeenfaaGreat
open Go.Am
set_option maxRecDepth 4000
set_option maxHeartbeats 16000000
variable {E : Env} {L : Hp}
theorem OrdO.shape {c : CircD} {r : AVal} {B : Hp} (h : OrdO c r B) : ∃ (q b e : Int) (s : AVal) (d : CircD), r = .tup [.agg [aint q, aint b, s], aint e] ∧ s.one = true ∧ CircO (.agg [aint q, aint b, s]) d B ∧ ((¬ CircOk c ∧ e = 80 ∧ d = ⟨0, 0, []⟩) ∨ (CircOk c ∧ e = 0 ∧ d = ⟨c.qubits, c.bits, ordL c.ops⟩)) := by
  rcases h with ⟨h, rfl, rfl⟩ | ⟨h, v, rfl, hv⟩
  · exact ⟨0, 0, 80, anil, ⟨0, 0, []⟩, rfl, rfl, ⟨anil, [], [], [], rfl, .nil, .nil, by simp, rfl⟩, .inl ⟨h, rfl, rfl⟩⟩
  · have hv0 := hv
    obtain ⟨s, cs, Bs, H, rfl, hb, -, -, -⟩ := hv
    exact ⟨c.qubits, c.bits, 0, s, _, rfl, hb.isOne, hv0, .inr ⟨h, rfl, rfl⟩⟩
theorem ReoR.same {c d : CircD} {u w : AVal} (h : ReoR c d u) (k : ReoR c d w) : w = u ∧ ∃ x e, u = .tup [abool x, aint e] := by
  rcases h with ⟨h1, rfl⟩ | ⟨h1, h2, x, rfl, h3⟩
  · rcases k with ⟨k1, rfl⟩ | ⟨k1, k2, y, rfl, k3⟩
    · exact ⟨rfl, _, _, rfl⟩
    · exact (h1 ⟨k1, k2⟩).elim
  · rcases k with ⟨k1, rfl⟩ | ⟨k1, k2, y, rfl, k3⟩
    · exact (k1 ⟨h1, h2⟩).elim
    · have : x = y := by
        have := h3.trans k3.symm
        cases x <;> cases y <;> simp_all
      subst this
      exact ⟨rfl, _, _, rfl⟩
theorem num18_ok (hF : E.fns = fnsT) (hm : E.mode f_phasorlaw18_num = .iso false) (n : Int) : CallO E f_phasorlaw18_num [aint n] L fun v L' => v = aint n ∧ L' = L := by
  refine callO_iso0 hm (fns_of hF n_phasorlaw18_num) (vs_bare rfl vs_nil) ?_
  refine bodyO_of (Nat.le_of_ble_eq_true rfl) ?_; generalize ht : argSlots _ 0 .nil = t; have h0 : t.get 0 = some _ := (by rw [← ht]; rfl); clear ht
  repeat (first | intro id | refine goq ?_)
  ((first | apply retO_r | apply retO_n); (focus (exact resq)))
  exact ⟨rfl, rfl⟩
end Go.Proofs.YtmflheoafeenfaaGreat
namespace Go.Proofs.YtmflheoafeenfaaGreat
open Go.Am
set_option maxRecDepth 4000
set_option maxHeartbeats 16000000
variable {E : Env} {L : Hp}
end Go.Proofs.YtmflheoafeenfaaGreat
namespace Go.Proofs.YtmflheoafeenfaaGreat
open Go.Am
set_option maxRecDepth 4000
set_option maxHeartbeats 16000000
variable {E : Env} {L : Hp}
end Go.Proofs.YtmflheoafeenfaaGreat
namespace Go.Proofs.YtmflheoafeenfaaGreat
open Go.Am
set_option maxRecDepth 4000
set_option maxHeartbeats 16000000
variable {E : Env} {L : Hp}
/-! Operations in boxes, in a row -/
structure Trip where
  u : AVal
  o : OpD
  B : Hp
def tpC (T : List Trip) : List AVal := T.flatMap fun p => opCells p.u p.o
def tpO (T : List Trip) : List OpD := T.map Trip.o
def tpH (T : List Trip) : Hp := T.flatMap Trip.B
def TrOk (T : List Trip) : Prop := ∀ p ∈ T, OwnI p.u p.o.qs p.B ∧ p.o.qs.length < 2 ^ 62
theorem TrOk.app {T : List Trip} : ∀ {c0 : List AVal} {o0 : List OpD} {H0 : Hp}, OpsB c0 o0 H0 → TrOk T → OpsB (c0 ++ tpC T) (o0 ++ tpO T) (H0 ++ tpH T) := by
  induction T with
  | nil => intro c0 o0 H0 h0 _; simpa [tpC, tpO, tpH] using h0
  | cons p T ih =>
    intro c0 o0 H0 h0 hT
    have hp := hT p (by simp)
    have h1 := ih (h0.snoc hp.1 hp.2) fun q hq => hT q (by simp [hq])
    simpa [tpC, tpO, tpH] using h1
theorem TrOk.ops {T : List Trip} (h : TrOk T) : OpsB (tpC T) (tpO T) (tpH T) := by simpa using TrOk.app .nil h
theorem tpC_len (T : List Trip) : (tpC T).length = T.length * 6 := by
  induction T with
  | nil => rfl
  | cons p T ih =>
    have e : tpC (p :: T) = opCells p.u p.o ++ tpC T := by simp [tpC]
    have e2 : (opCells p.u p.o).length = 6 := rfl
    rw [e, List.length_append, e2, ih, List.length_cons]
    omega
theorem Sub.perm {A B L : Hp} (h : A.Perm B) : Am.Sub (A ++ L) (B ++ L) := ⟨[], by rw [List.append_nil]; exact (h.symm).append_right L⟩
end Go.Proofs.YtmflheoafeenfaaGreat
namespace Go.Proofs.YtmflheoafeenfaaGreat
open Go.Am
theorem Qs_nodup {n : Int} {l : List Int} (h : Qs n l) : l.Nodup := by
  rw [List.nodup_iff_pairwise_ne, List.pairwise_iff_getElem]
  intro i j hi hj hij
  have h1 := (h j hj).2.2 i hij
  simpa [hi, hj] using h1
/-! One rule -/
/-- What may be stays so. -/
def OkL (n b : Int) (l : List OpD) : Prop := ∀ o ∈ l, OpOk o n b
theorem OkL.erase {n b : Int} {l : List OpD} (h : OkL n b l) (j : Nat) : OkL n b (l.eraseIdx j) := fun o ho => h o (List.mem_of_mem_eraseIdx ho)
end Go.Proofs.YtmflheoafeenfaaGreat
namespace Go.Proofs.YtmflheoafeenfaaGreat
open Go.Am
set_option maxRecDepth 4000
set_option maxHeartbeats 8000000
section
variable {E : Env} {L L' : Hp} {t : Tr AVal} {K : Tr AVal → Hp → Prop} {l : List AO} {g : Option (Option Nat × Bool)} {n d : Nat} {x y z w : Arg} {bytes id off off2 k esz j i : Nat} {cap cap2 : Option Nat} {cs c2 old nw : List AVal} {m : Mem}
/-- Part of a box is appended to a slice without room. -/
theorem oo_appendFS (hg : wantedA t g = some true) (hx : x.get t = some (.sl id off k esz (some k))) (hi : In id cs L) (hs : seg cs off (k * esz) = some old) (ho : old.all AVal.one = true) (hy : y.get t = some (.sl i off2 j esz cap)) (hj : In i c2 L) (hs2 : seg c2 off2 (j * esz) = some nw) (h0 : 0 < j) (h1 : nw.all AVal.one = true) (hr1 : (k + j) * bytes ≤ 140737488355328) (hr2 : k + j ≤ 140737488355328)
    (h : ∀ id2, OpsO E l (t.set d (some (.sl id2 0 (k + j) esz none))) ((id2, old ++ nw) :: L) K) : OpsO E (⟨some d, .append esz bytes x y, g, n⟩ :: l) t L K := ⟨fun m hm => by
  have hsc : sliceCells m esz j (.sl i off2 j esz cap) = some nw := by
    simp only [sliceCells, if_true, hm.get hj]
    exact hs2
  exact ops_s hg (op_append hx hy (.full (hm.get hi) hs) rfl hsc h0 hr1 hr2 h1 ho) ((h m.next).ex _ hm.new)⟩
theorem op_appendT {b : AVal} {n' : Nat} (hx : x.get t = some (.sl id off k esz none)) (hy : y.get t = some b) (hc : m.cells id = some cs) (hs : seg cs off (k * esz) = some old) (hl : sliceLen b = some n') (hb : sliceCells m esz n' b = some nw) (h0 : 0 < n') (hr : (k + n') * bytes ≤ 140737488355328) (hr' : k + n' ≤ 140737488355328) (h1 : nw.all AVal.one = true) (h2 : old.all AVal.one = true) :
    OpV t m (.append esz bytes x y) (.sl m.next 0 (k + n') esz none) ((m.put id none).new (.cells (old ++ nw ++ cs.drop (off + (k + n') * esz)))) := ⟨by
  have hoc : sliceCells m esz k (.sl id off k esz none) = some old := by simp only [sliceCells, if_true, hc, hs]
  have hk : sliceLen (.sl id off k esz none) = some k := rfl
  simp only [opVal, hx, hy, hk, hl, hoc, hb]
  rw [if_neg (by omega), if_pos ⟨hr, hr', h1, h2⟩]
  simp only [reduceCtorEq, if_false, if_true, hc]⟩
end
theorem tpC_all {T : List Trip} (h : TrOk T) : (tpC T).all AVal.one = true := by
  induction T with
  | nil => rfl
  | cons p T ih =>
    have h1 := (h p (by simp)).1.isOne
    have e : tpC (p :: T) = opCells p.u p.o ++ tpC T := by simp [tpC]
    rw [e, List.all_append, ih fun q hq => h q (by simp [hq])]
    simp only [opCells, List.all_cons, List.all_nil, h1, Bool.and_true]
    rfl
theorem tpO_len (T : List Trip) : (tpO T).length = T.length := by simp [tpO]
theorem tpC_mid (xs ys : List Trip) (p : Trip) : tpC (xs ++ p :: ys) = tpC xs ++ (opCells p.u p.o ++ tpC ys) := by simp [tpC]
theorem arity_le (k : Int) : arity k ≤ 3 := by unfold arity; (repeat' split) <;> omega
end Go.Proofs.YtmflheoafeenfaaGreat
namespace Go.Am

/-- No box that was not there is there, but for new ones. -/
structure Stay (m m' : Mem) : Prop where
  next : m.next ≤ m'.next
  none_ : ∀ id, id < m.next → m.heap.get id = none → m'.heap.get id = none
theorem Stay.refl (m : Mem) : Stay m m := ⟨Nat.le_refl _, fun _ _ h => h⟩
theorem Stay.trans {a b c : Mem} (h : Stay a b) (k : Stay b c) : Stay a c :=
  ⟨Nat.le_trans h.next k.next, fun id hid hn => k.none_ id (Nat.lt_of_lt_of_le hid h.next) (h.none_ id hid hn)⟩
theorem stay_new (m : Mem) (b : Box) : Stay m (m.new b) := ⟨by simp [Mem.new], fun id h hn => by simp only [Mem.new, Tr.get_set]; rw [if_neg (by omega)]; exact hn⟩
theorem stay_put {m : Mem} {id : Nat} {b : Option Box} (h : m.heap.get id ≠ none ∨ b = none) : Stay m (m.put id b) := ⟨by simp [Mem.put], fun i hi hn => by
  simp only [Mem.put, Tr.get_set]
  by_cases e : i = id
  · subst e
    rw [if_pos rfl]
    rcases h with h | h
    · exact absurd hn h
    · exact h
  · rw [if_neg e]; exact hn⟩
theorem cells_some {m : Mem} {id : Nat} {cs : List AVal} (h : m.cells id = some cs) : m.heap.get id ≠ none := by
  unfold Mem.cells at h
  intro hn
  rw [hn] at h
  split at h <;> simp at h
theorem opVal_stay {s : Tr AVal} {m m' : Mem} {v : AVal} {o : AOp} (h : opVal s m o = some (v, m')) : Stay m m' := by
  cases o <;> simp only [opVal] at h
  all_goals (repeat' (split at h))
  all_goals (try (simp only [reduceCtorEq] at h; done))
  all_goals (try simp only [Option.map_eq_some_iff, Option.some.injEq, Prod.mk.injEq] at h)
  all_goals first
    | (obtain ⟨_, _, _, rfl⟩ := h; exact Stay.refl _)
    | (obtain ⟨_, rfl⟩ := h; exact Stay.refl _)
    | (obtain ⟨_, rfl⟩ := h; exact stay_new _ _)
    | (obtain ⟨_, rfl⟩ := h; exact stay_put (.inl (cells_some (by assumption))))
    | (obtain ⟨_, rfl⟩ := h; exact stay_put (.inr rfl))
    | (obtain ⟨_, rfl⟩ := h; exact (stay_put (.inr rfl)).trans (stay_new _ _))
def CfStay (cf : CallF) : Prop := ∀ g args m v m', cf g args m = some (v, m') → Stay m m'
section
variable {cf : CallF} {s s' : St} {m m' : Mem} {v : AVal}
theorem stepVal_stay (hcf : CfStay cf) {t : Tr AVal} {op : AOp} (h : stepVal cf t m op = some (v, m')) : Stay m m' := by
  unfold stepVal at h
  split at h
  · split at h
    · exact hcf _ _ _ _ _ h
    · simp at h
  · exact opVal_stay h
theorem stepO_stay (hcf : CfStay cf) {o : AO} (h : stepO cf o s = some s') : Stay s.mem s'.mem := by
  unfold stepO at h
  split at h
  · split at h
    · rename_i v m' hv
      simp only [Option.some.injEq] at h
      subst h
      exact stepVal_stay hcf hv
    · simp at h
  · simp only [Option.some.injEq] at h
    subst h
    exact Stay.refl _
  · simp at h
theorem stepOs_stay (hcf : CfStay cf) : ∀ {l : List AO} {s s' : St}, stepOs cf l s = some s' → Stay s.mem s'.mem
  | [], s, s', h => by
    simp only [stepOs, Option.some.injEq] at h
    subst h
    exact Stay.refl _
  | o :: l, s, s', h => by
    unfold stepOs at h
    split at h
    · rename_i s1 h1
      exact (stepO_stay hcf h1).trans (stepOs_stay hcf h)
    · simp at h
theorem effO_stay (hcf : CfStay cf) {o : AO} {e : Eff} (h : effO cf o s = some e) : Stay s.mem (e.app s).mem := by
  obtain ⟨h1, h2, h3, h4, h5, ⟨_, hall⟩, h6⟩ := effO_spec h
  rcases h6 with ⟨hw, m, hv, g1, g2, g3, g4⟩ | ⟨hw, g0, g1, g2, g3, g4, g5⟩
  · have hg := stepVal_stay hcf hv
    have hle : e.lo ≤ e.hi := by rw [h1, g2]; exact hg.next
    refine ⟨show s.mem.next ≤ e.hi by rw [← h1]; exact hle, fun id hid hn => ?_⟩
    rw [app_heap _ _ _ hall hle]
    by_cases c : Eff.cov id e = true
    · rw [if_pos c, g4]
      refine hg.none_ id hid ?_
      rw [restrict_get]
      split
      · exact hn
      · rfl
    · rw [if_neg c]
      exact hn
  · have hle : e.lo ≤ e.hi := by omega
    refine ⟨show s.mem.next ≤ e.hi by omega, fun id hid hn => ?_⟩
    rw [app_heap _ _ _ hall hle, if_neg]
    · exact hn
    · unfold Eff.cov
      rw [g1, g2, hall]
      simp
      intro; omega
theorem drawOs_stay (hcf : CfStay cf) : ∀ {l : List AO} {s : St} {r : St × List Eff}, drawOs cf l s = some r → Stay s.mem r.1.mem
  | [], s, r, h => by
    simp only [drawOs, Option.some.injEq] at h
    subst h
    exact Stay.refl _
  | o :: l, s, r, h => by
    unfold drawOs at h
    split at h
    · rename_i e he
      split at h
      · rename_i s1 es h1
        simp only [Option.some.injEq] at h
        subst h
        exact (effO_stay hcf he).trans (drawOs_stay (r := (s1, es)) hcf h1)
      · simp at h
    · simp at h
theorem drawn_stay (hcf : CfStay cf) {l : List AO} (h : drawn cf l s = some s') : Stay s.mem s'.mem := by
  unfold drawn at h
  split at h
  · rename_i s1 es h1
    split at h
    · simp only [Option.some.injEq] at h
      subst h
      exact drawOs_stay hcf h1
    · simp at h
  · simp at h
end
section
variable {E : Env}
structure StayN (E : Env) (n : Nat) : Prop where
  run : ∀ c s ex s', run E n c s = some (ex, s') → Stay s.mem s'.mem
  call : CfStay (callF E n)
  body : ∀ f args m v m', body E n f args m = some (v, m') → Stay m m'
theorem stay_step (hk : ∀ f args m v m', E.mode f = .known → E.known f args m = some (v, m') → Stay m m') {n : Nat} (ih : StayN E n) : StayN E (n + 1) := by
  refine ⟨fun c s ex s' h => ?_, fun g args m v m' h => ?_, fun f args m v m' h => ?_⟩
  · cases c with
    | skip => simp only [Am.run, Option.some.injEq, Prod.mk.injEq] at h; obtain ⟨_, rfl⟩ := h; exact Stay.refl _
    | exit id => simp only [Am.run, Option.some.injEq, Prod.mk.injEq] at h; obtain ⟨_, rfl⟩ := h; exact Stay.refl _
    | ret => simp only [Am.run, Option.some.injEq, Prod.mk.injEq] at h; obtain ⟨_, rfl⟩ := h; exact Stay.refl _
    | scope c => rw [Am.run] at h; exact ih.run _ _ _ _ h
    | reg ops d =>
      rw [Am.run] at h
      split at h
      · rename_i s1 hs
        simp only [Option.some.injEq, Prod.mk.injEq] at h
        obtain ⟨_, rfl⟩ := h
        split at hs
        · exact drawn_stay ih.call hs
        · exact stepOs_stay ih.call hs
      · simp at h
    | seq a b =>
      rw [Am.run] at h
      split at h
      · rename_i s1 hs
        exact (ih.run _ _ _ _ hs).trans (ih.run _ _ _ _ h)
      · exact ih.run _ _ _ _ h
    | cond c a b =>
      rw [Am.run] at h
      split at h
      · exact ih.run _ _ _ _ h
      · exact ih.run _ _ _ _ h
      · simp at h
    | blk id c =>
      rw [Am.run] at h
      split at h
      · rename_i j s1 hs
        have := ih.run _ _ _ _ hs
        split at h
        · simp only [Option.some.injEq, Prod.mk.injEq] at h
          obtain ⟨_, rfl⟩ := h
          exact this
        · simp only [Option.some.injEq, Prod.mk.injEq] at h
          obtain ⟨_, rfl⟩ := h
          exact this
      · exact ih.run _ _ _ _ h
    | loop c =>
      rw [Am.run] at h
      split at h
      · rename_i s1 hs
        exact (ih.run _ _ _ _ hs).trans (ih.run _ _ _ _ h)
      · exact ih.run _ _ _ _ h
  · cases g with
    | func f =>
      rw [callF] at h
      split at h
      · rename_i hm
        exact hk _ _ _ _ _ hm h
      · split at h
        · simp at h
        · split at h
          · rename_i v1 m1 hb
            simp only [Option.some.injEq, Prod.mk.injEq] at h
            obtain ⟨_, rfl⟩ := h
            have := ih.body _ _ _ _ _ hb
            exact ⟨this.next, this.none_⟩
          · simp at h
      · split at h
        · simp at h
        · split at h
          · simp at h
          · split at h
            · split at h
              · split at h
                · split at h
                  · simp only [Option.some.injEq, Prod.mk.injEq] at h
                    obtain ⟨_, rfl⟩ := h
                    exact Stay.refl _
                  · simp at h
                · simp at h
              · split at h
                · simp only [Option.some.injEq, Prod.mk.injEq] at h
                  obtain ⟨_, rfl⟩ := h
                  exact Stay.refl _
                · simp at h
            · simp at h
      · split at h
        · simp at h
        · split at h
          · split at h
            · rename_i v1 m1 hb
              simp only [Option.some.injEq, Prod.mk.injEq] at h
              obtain ⟨_, rfl⟩ := h
              have := ih.body _ _ _ _ _ hb
              refine ⟨this.next, fun id hid hn => ?_⟩
              show (mergeNew m.heap m1.heap m.next (m1.next - m.next)).get id = none
              rw [mergeNew_get, if_neg (by omega)]
              exact hn
            · simp at h
          · simp at h
    | _ => simp [callF] at h
  · rw [Am.body] at h
    split at h
    · split at h
      · rename_i s1 hs
        simp only [Option.map_eq_some_iff, Prod.mk.injEq] at h
        obtain ⟨_, _, _, rfl⟩ := h
        exact ih.run _ _ _ _ hs
      · rename_i s1 hs
        simp only [Option.map_eq_some_iff, Prod.mk.injEq] at h
        obtain ⟨_, _, _, rfl⟩ := h
        exact ih.run _ _ _ _ hs
      · simp at h
    · simp at h
theorem stay_all (hk : ∀ f args m v m', E.mode f = .known → E.known f args m = some (v, m') → Stay m m') : ∀ n, StayN E n
  | 0 => ⟨fun c s ex s' h => by simp [Am.run] at h, fun g args m v m' h => by simp [callF] at h, fun f args m v m' h => by simp [Am.body] at h⟩
  | n + 1 => stay_step hk (stay_all hk n)
end

/-! What may be come to -/
mutual
def AVal.wt : AVal → Nat
  | .agg vs => 1 + wtAll vs
  | .tup vs => 1 + wtAll vs
  | .fn _ a b => 1 + (wtAll a + wtAll b)
  | _ => 1
def wtAll : List AVal → Nat
  | [] => 0
  | v :: r => v.wt + wtAll r
end
mutual
def AVal.clo (P : Nat → Prop) : AVal → Prop
  | .agg vs => cloAll P vs
  | .tup vs => cloAll P vs
  | .fn _ a b => cloAll P a ∧ cloAll P b
  | .ptr id _ => P id
  | .sl id _ _ _ _ => P id
  | .mp id => P id
  | _ => True
def cloAll (P : Nat → Prop) : List AVal → Prop
  | [] => True
  | v :: r => v.clo P ∧ cloAll P r
end
theorem wtAll_app : ∀ (a b : List AVal), wtAll (a ++ b) = wtAll a + wtAll b
  | [], b => by simp [wtAll]
  | v :: a, b => by simp [wtAll, wtAll_app a b, Nat.add_assoc]
theorem cloAll_app {P : Nat → Prop} : ∀ {a b : List AVal}, cloAll P (a ++ b) ↔ cloAll P a ∧ cloAll P b
  | [], b => by simp [cloAll]
  | v :: a, b => by simp [cloAll, cloAll_app (a := a), and_assoc]
theorem wt_pos (v : AVal) : 1 ≤ v.wt := by cases v <;> simp [AVal.wt] <;> omega
def unseen (acc : List Nat) : Hp → Nat
  | [] => 0
  | p :: r => (if acc.contains p.1 then 0 else wtAll p.2) + unseen acc r
theorem unseen_le {acc : List Nat} {id : Nat} : ∀ (L : Hp), unseen (id :: acc) L ≤ unseen acc L
  | [] => Nat.le_refl _
  | p :: r => by
    have := unseen_le (acc := acc) (id := id) r
    simp only [unseen]
    by_cases h : acc.contains p.1 = true
    · rw [if_pos h, if_pos (by simp only [List.contains_cons, h, Bool.or_true])]
      omega
    · rw [if_neg h]
      split <;> omega
theorem unseen_in {acc : List Nat} {q : Nat × List AVal} (ha : acc.contains q.1 = false) : ∀ (L : Hp), q ∈ L → unseen (q.1 :: acc) L + wtAll q.2 ≤ unseen acc L
  | [], h => by cases h
  | p :: r, h => by
    simp only [unseen]
    rcases List.mem_cons.1 h with rfl | h
    · have := unseen_le (acc := acc) (id := q.1) r
      rw [if_pos (by simp), if_neg (by simp [ha] <;> simpa using ha)]
      omega
    · have := unseen_in ha r h
      by_cases h : acc.contains p.1 = true
      · rw [if_pos h, if_pos (by simp only [List.contains_cons, h, Bool.or_true])]
        omega
      · rw [if_neg h]
        split <;> omega
def Named (L : Hp) (i : Nat) : Prop := ∃ q ∈ L, q.1 = i
theorem reach_ok {h : Tr Box} {L : Hp} (hL : ∀ p ∈ L, h.get p.1 = some (.cells p.2)) (hc : ∀ p ∈ L, cloAll (Named L) p.2) : ∀ (f : Nat) (vs : List AVal) (acc : List Nat), cloAll (Named L) vs → wtAll vs + unseen acc L ≤ f →
    ∃ ids, reach h f vs acc = some ids ∧ (∀ i ∈ acc, i ∈ ids) ∧ (∀ i ∈ ids, i ∈ acc ∨ Named L i) ∧ cloAll (· ∈ ids) vs ∧ ∀ p ∈ L, p.1 ∈ ids → p.1 ∈ acc ∨ cloAll (· ∈ ids) p.2
  | f, [], acc, _, _ => ⟨acc, by cases f <;> rfl, fun _ h => h, fun _ h => .inl h, trivial, fun _ _ h => .inl h⟩
  | 0, v :: r, acc, _, hf => by
    have := wt_pos v
    simp only [wtAll] at hf
    omega
  | f + 1, v :: r, acc, hv, hf => by
    have hw := wt_pos v
    simp only [wtAll] at hf
    obtain ⟨hv1, hv2⟩ := hv
    have box : ∀ id, AVal.clo (Named L) v = Named L id → (∀ P, AVal.clo P v = P id) → (∀ acc, reach h (f + 1) (v :: r) acc = if acc.contains id then reach h f r acc else match h.get id with
      | some (.cells cs) => reach h f (cs ++ r) (id :: acc)
      | some (.map es _) => reach h f (es.map (·.2.1) ++ r) (id :: acc)
      | none => reach h f r (id :: acc)) → ∃ ids, reach h (f + 1) (v :: r) acc = some ids ∧ (∀ i ∈ acc, i ∈ ids) ∧ (∀ i ∈ ids, i ∈ acc ∨ Named L i) ∧ cloAll (· ∈ ids) (v :: r) ∧ ∀ p ∈ L, p.1 ∈ ids → p.1 ∈ acc ∨ cloAll (· ∈ ids) p.2 := by
      intro id e1 e2 e3
      rw [e1] at hv1
      obtain ⟨q, hq, rfl⟩ := hv1
      rw [e3]
      cases ha : acc.contains q.1 with
      | true =>
        obtain ⟨ids, k1, k2, k3, k4, k5⟩ := reach_ok hL hc f r acc hv2 (by omega)
        refine ⟨ids, by simpa using k1, k2, k3, ⟨?_, k4⟩, k5⟩
        rw [e2]
        exact k2 _ (by simpa using ha)
      | false =>
        have hu := unseen_in ha L hq
        obtain ⟨ids, k1, k2, k3, k4, k5⟩ := reach_ok hL hc f (q.2 ++ r) (q.1 :: acc) (cloAll_app.2 ⟨hc q hq, hv2⟩) (by rw [wtAll_app]; omega)
        refine ⟨ids, by simp only [Bool.false_eq_true, if_false, hL q hq]; exact k1, fun i hi => k2 i (by simp [hi]), fun i hi => ?_, ⟨?_, (cloAll_app.1 k4).2⟩, fun p hp hi => ?_⟩
        · rcases k3 i hi with h1 | h1
          · rcases List.mem_cons.1 h1 with rfl | h1
            · exact .inr ⟨q, hq, rfl⟩
            · exact .inl h1
          · exact .inr h1
        · rw [e2]
          exact k2 _ (by simp)
        · rcases k5 p hp hi with h1 | h1
          · rcases List.mem_cons.1 h1 with h1 | h1
            · have e4 := hL p hp
              rw [h1, hL q hq] at e4
              simp only [Option.some.injEq, Box.cells.injEq] at e4
              exact .inr (e4 ▸ (cloAll_app.1 k4).1)
            · exact .inl h1
          · exact .inr h1
    have skip : (∀ acc, reach h (f + 1) (v :: r) acc = reach h f r acc) → (∀ P, AVal.clo P v = True) → ∃ ids, reach h (f + 1) (v :: r) acc = some ids ∧ (∀ i ∈ acc, i ∈ ids) ∧ (∀ i ∈ ids, i ∈ acc ∨ Named L i) ∧ cloAll (· ∈ ids) (v :: r) ∧ ∀ p ∈ L, p.1 ∈ ids → p.1 ∈ acc ∨ cloAll (· ∈ ids) p.2 := by
      intro e3 e2
      obtain ⟨ids, k1, k2, k3, k4, k5⟩ := reach_ok hL hc f r acc hv2 (by omega)
      exact ⟨ids, by rw [e3]; exact k1, k2, k3, ⟨by rw [e2]; trivial, k4⟩, k5⟩
    have more : ∀ ws, (∀ acc, reach h (f + 1) (v :: r) acc = reach h f (ws ++ r) acc) → (∀ P, AVal.clo P v ↔ cloAll P ws) → v.wt = 1 + wtAll ws → ∃ ids, reach h (f + 1) (v :: r) acc = some ids ∧ (∀ i ∈ acc, i ∈ ids) ∧ (∀ i ∈ ids, i ∈ acc ∨ Named L i) ∧ cloAll (· ∈ ids) (v :: r) ∧ ∀ p ∈ L, p.1 ∈ ids → p.1 ∈ acc ∨ cloAll (· ∈ ids) p.2 := by
      intro ws e3 e2 e4
      obtain ⟨ids, k1, k2, k3, k4, k5⟩ := reach_ok hL hc f (ws ++ r) acc (cloAll_app.2 ⟨(e2 _).1 hv1, hv2⟩) (by rw [wtAll_app]; omega)
      exact ⟨ids, by rw [e3]; exact k1, k2, k3, ⟨(e2 _).2 (cloAll_app.1 k4).1, (cloAll_app.1 k4).2⟩, k5⟩
    cases v with
    | sc x => exact skip (fun _ => rfl) (fun _ => by simp [AVal.clo])
    | ro x => exact skip (fun _ => rfl) (fun _ => by simp [AVal.clo])
    | rs x y z => exact skip (fun _ => rfl) (fun _ => by simp [AVal.clo])
    | agg ws => exact more ws (fun _ => rfl) (fun _ => by simp [AVal.clo]) (by simp [AVal.wt])
    | tup ws => exact more ws (fun _ => rfl) (fun _ => by simp [AVal.clo]) (by simp [AVal.wt])
    | fn g a b => exact more (a ++ b) (fun _ => rfl) (fun _ => by simp [AVal.clo, cloAll_app]) (by simp [AVal.wt, wtAll_app])
    | ptr id off => exact box id (by simp [AVal.clo]) (fun _ => by simp [AVal.clo]) (fun _ => rfl)
    | sl id off len esz cap => exact box id (by simp [AVal.clo]) (fun _ => by simp [AVal.clo]) (fun _ => rfl)
    | mp id => exact box id (by simp [AVal.clo]) (fun _ => by simp [AVal.clo]) (fun _ => rfl)
end Go.Am
