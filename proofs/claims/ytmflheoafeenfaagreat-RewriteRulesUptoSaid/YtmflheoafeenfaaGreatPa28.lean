/- Parts of the proof, joined by program: RwW1b, RwV2, RwW2. -/
import Derived.Test.YtmflheoafeenfaaGreatPa27
set_option linter.unusedSimpArgs false
set_option linter.unusedVariables false
namespace Go.Proofs.YtmflheoafeenfaaGreat
open Go.Am
set_option maxRecDepth 4000
set_option maxHeartbeats 16000000
theorem rtimes_l1 (h11 : still ER c_phasorref06_Times_r11 = true) (h12 : still ER c_phasorref06_Times_r12 = true) (h14 : still ER c_phasorref06_Times_r14 = true) {n r im ir : Nat} {va vb : AVal} {a b : List (List Cx)} {ms : List AVal} {L : Hp} (hn : n ≤ 64) (ha : MatZ va n a) (hb : MatZ vb n b) (hr : r < n) (hms : ms[r]? = some (.sl ir 0 n 2 (some n))) :
    ∀ (d c : Nat) (t : Tr AVal), d + c = n → t.get 0 = some va → t.get 1 = some vb → t.get 5 = some (aint n) → t.get 6 = some (.sl im 0 n 1 (some n)) → t.get 7 = some (aint r) → t.get 8 = some (aint c) →
    WpO ER (.loop c_phasorref06_Times_l1) t ((ir, zcells (rowZ n a b r c)) :: (im, ms) :: L) (fun ex t' L' => ex = .exit 2 ∧ Keep [0, 1, 4, 5, 6, 7] t t' ∧ L' = (ir, zcells (rowZ n a b r n)) :: (im, ms) :: L) := by
  have hml := (List.getElem?_eq_some_iff.1 hms).1
  have hms1 : ms[0 + r * 1]? = some (.sl ir 0 n 2 (some n)) := by rw [Nat.zero_add, Nat.mul_one]; exact hms
  intro d
  induction d with
  | zero =>
    intro c t hd h0 h1 h5 h6 h7 h8
    obtain rfl : c = n := by omega
    refine wo_loop ?_
    repeat (first | intro id | refine goq ?_)
    exact ⟨rfl, by exact keepq, rfl⟩
  | succ d ih =>
    intro c t hd h0 h1 h5 h6 h7 h8
    have hc : c < n := by omega
    have zl := zcells_len (rowZ n a b r c)
    rw [rowZ_len] at zl
    refine wo_loop ?_
    repeat (first | intro id | refine goq ?_)
    refine WpO.mono (rtimes_l0 h11 h12 (i9 := id) hn ha hb hr hc n 0 _ (by omega) ?_ ?_ ?_ ?_ ?_ ?_ ?_) ?_
    · exact slotq
    · exact slotq
    · exact slotq
    · exact slotq
    · exact slotq
    · exact slotq
    · exact slotq
    rintro ex t1 L1 ⟨rfl, hK, rfl⟩
    have g0 : t1.get 0 = some va := (hK.ex 0 rfl).trans (by exact slotq)
    have g1 : t1.get 1 = some vb := (hK.ex 1 rfl).trans (by exact slotq)
    have g5 : t1.get 5 = some (aint n) := (hK.ex 5 rfl).trans (by exact slotq)
    have g6 : t1.get 6 = some (.sl im 0 n 1 (some n)) := (hK.ex 6 rfl).trans (by exact slotq)
    have g7 : t1.get 7 = some (aint r) := (hK.ex 7 rfl).trans (by exact slotq)
    have g8 : t1.get 8 = some (aint c) := (hK.ex 8 rfl).trans (by exact slotq)
    have g9 : t1.get 9 = some (.ptr id 0) := (hK.ex 9 rfl).trans (by exact slotq)
    have hKt : Keep [0, 1, 4, 5, 6, 7] t t1 := Keep.trans (by exact keepq) (hK.less rfl)
    clear hK
    refine blkO.x (seqO.n ?_)
    repeat (first | intro id | refine goq ?_)
    have hs : List.take (c * 2) (zcells (rowZ n a b r c)) ++ [af (dotZ a b r c n).1, af (dotZ a b r c n).2] ++ List.drop (c * 2 + 2) (zcells (rowZ n a b r c)) = zcells (rowZ n a b r (c + 1)) := by
      have := zcells_set (l := rowZ n a b r c) (k := c) (dotZ a b r c n) (by rw [rowZ_len]; exact hc)
      rw [rowZ_set hc] at this
      exact this
    rw [hs]
    refine WpO.weak (WpO.mono (ih (c + 1) _ (by omega) ?_ ?_ ?_ ?_ ?_ ?_) ?_) (by exact subq)
    · exact slotq
    · exact slotq
    · exact slotq
    · exact slotq
    · exact slotq
    · exact slotq
    · rintro ex t' L' ⟨e1, e2, e3⟩
      exact ⟨e1, hKt.trans (Keep.trans (by exact keepq) e2), e3⟩
theorem oo_makeL {E : Env} {L : Hp} {t : Tr AVal} {K : Tr AVal → Hp → Prop} {l : List AO} {g : Option (Option Nat × Bool)} {n d k esz bytes : Nat} {x y : Arg} {zs : List AVal} (hg : wantedA t g = some true) (hx : x.get t = some (aint k)) (hy : y.get t = some (aint k)) (hb : bytes * k ≤ 281474976710656) (hn : k < 281474976710657) (h : ∀ id, OpsO E l (t.set d (some (.sl id 0 k esz (some k)))) ((id, (List.replicate k zs).flatten) :: L) K) : OpsO E (⟨some d, .makeSlice esz bytes zs x y, g, n⟩ :: l) t L K :=
  ⟨fun m hm => ops_s hg (show OpV t m (.makeSlice esz bytes zs x y) (.sl m.next 0 k esz (some k)) (m.new (.cells (List.replicate k zs).flatten)) from ⟨by
    simp only [opVal, hx, hy, Option.bind_some, AVal.int?, aint]
    rw [if_pos ⟨by omega, by omega, by omega, by simpa using hb⟩]
    simp⟩) ((h m.next).ex _ hm.new)⟩
inductive RowsZ (n : Nat) : List AVal → List (List Cx) → Hp → Prop where
  | nil : RowsZ n [] [] []
  | snoc {us : List AVal} {m : List (List Cx)} {H : Hp} {id : Nat} {z : List Cx} (h : RowsZ n us m H) (hz : z.length = n) : RowsZ n (us ++ [.sl id 0 n 2 (some n)]) (m ++ [z]) (H ++ [(id, zcells z)])
theorem RowsZ.len {n : Nat} {us : List AVal} {m : List (List Cx)} {H : Hp} (h : RowsZ n us m H) : us.length = m.length := by
  induction h with
  | nil => rfl
  | snoc h hz ih => simp [ih]
theorem RowsZ.lens {n : Nat} {us : List AVal} {m : List (List Cx)} {H : Hp} (h : RowsZ n us m H) : ∀ r ∈ m, r.length = n := by
  induction h with
  | nil => intro r hr; cases hr
  | snoc h hz ih =>
    intro r hr
    rcases List.mem_append.1 hr with h1 | h1
    · exact ih r h1
    · rw [List.mem_singleton.1 h1]; exact hz
theorem RowsZ.view {n : Nat} {us : List AVal} {m : List (List Cx)} {H M : Hp} (h : RowsZ n us m H) (k : Nat) (hM : ∀ id c, In id c H → In id c M) : ∃ vs, ViewL M (k + 2) us vs ∧ vs.length = m.length ∧ ∀ i, i < m.length → ∃ u, vs[i]? = some u ∧ SlZ u (m.getD i []) := by
  induction h with
  | nil => exact ⟨[], vl_nil, rfl, fun i hi => by simp at hi⟩
  | @snoc us m H id z h hz ih =>
    obtain ⟨vs, h1, h2, h3⟩ := ih fun id c hi => hM id c hi.appl
    refine ⟨vs ++ [.rs (zcells z) n (some n)], vl_app h1 (vl_cons (vo_sl (hM _ _ (In.app .here)) (seg_full (by rw [zcells_len, hz])) (vl_sc (zcells_sc z))) vl_nil), by simp [h2], fun i hi => ?_⟩
    by_cases e : i < m.length
    · obtain ⟨u, h4, h5⟩ := h3 i e
      refine ⟨u, by rw [List.getElem?_append_left (by omega)]; exact h4, ?_⟩
      rw [show (m ++ [z]).getD i [] = m.getD i [] by simp [List.getElem?_append_left e]]
      exact h5
    · have e2 : i = m.length := by simp at hi; omega
      subst e2
      refine ⟨.rs (zcells z) n (some n), by rw [List.getElem?_append_right (by omega)]; simp [h2], ?_⟩
      rw [show (m ++ [z]).getD m.length [] = z by simp]
      exact .inr ⟨_, by rw [hz]⟩
theorem row_set {us : List AVal} {n r : Nat} {x : AVal} (h : us.length = r) (hr : r < n) : (us ++ List.replicate (n - r) anil).set r x = us ++ [x] ++ List.replicate (n - (r + 1)) anil := by
  rw [List.set_append_right _ _ (by omega), h, Nat.sub_self, show n - r = (n - (r + 1)) + 1 by omega, List.replicate_succ, List.set_cons_zero]
  simp
theorem timesZ_succ {n r : Nat} {a b : List (List Cx)} (h : r < n) : (timesZ n a b).take (r + 1) = (timesZ n a b).take r ++ [rowZ n a b r n] := by
  rw [List.take_succ_eq_append_getElem (by simpa [timesZ] using h)]
  simp [timesZ]
theorem rtimes_l2 (h11 : still ER c_phasorref06_Times_r11 = true) (h12 : still ER c_phasorref06_Times_r12 = true) (h14 : still ER c_phasorref06_Times_r14 = true) {n im : Nat} {va vb : AVal} {a b : List (List Cx)} {L : Hp} (hn : n ≤ 64) (ha : MatZ va n a) (hb : MatZ vb n b) :
    ∀ (d r : Nat) (t : Tr AVal) (us : List AVal) (H : Hp), d + r = n → RowsZ n us ((timesZ n a b).take r) H → t.get 0 = some va → t.get 1 = some vb → t.get 5 = some (aint n) → t.get 6 = some (.sl im 0 n 1 (some n)) → t.get 7 = some (aint r) →
    WpO ER (.loop c_phasorref06_Times_l2) t ((im, us ++ List.replicate (n - r) anil) :: (H ++ L)) (fun ex t' L' => ex = .exit 0 ∧ Keep [4, 6] t t' ∧ ∃ us H, RowsZ n us (timesZ n a b) H ∧ L' = (im, us) :: (H ++ L)) := by
  intro d
  induction d with
  | zero =>
    intro r t us H hd hR h0 h1 h5 h6 h7
    obtain rfl : r = n := by omega
    refine wo_loop ?_
    repeat (first | intro id | refine goq ?_)
    rw [List.take_of_length_le (by simp [timesZ])] at hR
    exact ⟨rfl, by exact keepq, us, H, hR, by rw [Nat.sub_self]; simp⟩
  | succ d ih =>
    intro r t us H hd hR h0 h1 h5 h6 h7
    have hr : r < n := by omega
    have hul : us.length = r := by rw [hR.len]; simp [timesZ]; omega
    have hml : (us ++ List.replicate (n - r) anil).length = n := by simp [hul]; omega
    refine wo_loop ?_
    repeat (first | intro id | refine goq ?_)
    refine oo_makeL wanted_none (by exact slotq) (by exact slotq) (by omega) (by omega) ?_
    intro ir
    have e0 := rowZ_zero (n := n) (r := r) (a := a) (b := b)
    rw [← e0]
    repeat (first | intro id | refine goq ?_)
    refine WpO.mono (rtimes_l1 h11 h12 h14 (im := im) (ir := ir) (L := H ++ L) hn ha hb hr (ms := (us ++ List.replicate (n - r) anil).set r (.sl ir 0 n 2 (some n))) ?_ n 0 _ (by omega) ?_ ?_ ?_ ?_ ?_ ?_) ?_
    · rw [List.getElem?_set_self (by omega)]
    · exact slotq
    · exact slotq
    · exact slotq
    · exact slotq
    · exact slotq
    · exact slotq
    rintro ex t1 L1 ⟨rfl, hK, rfl⟩
    have g0 : t1.get 0 = some va := (hK.ex 0 rfl).trans (by exact slotq)
    have g1 : t1.get 1 = some vb := (hK.ex 1 rfl).trans (by exact slotq)
    have g5 : t1.get 5 = some (aint n) := (hK.ex 5 rfl).trans (by exact slotq)
    have g6 : t1.get 6 = some (.sl im 0 n 1 (some n)) := (hK.ex 6 rfl).trans (by exact slotq)
    have g7 : t1.get 7 = some (aint r) := (hK.ex 7 rfl).trans (by exact slotq)
    have hKt : Keep [4, 6] t t1 := Keep.trans (by exact keepq) (hK.less rfl)
    clear hK
    refine blkO.x (blkO.n (seqO.n ?_))
    repeat (first | intro id | refine goq ?_)
    rw [row_set hul hr]
    refine WpO.weak (WpO.mono (ih (r + 1) _ (us ++ [.sl ir 0 n 2 (some n)]) (H ++ [(ir, zcells (rowZ n a b r n))]) (by omega) ?_ ?_ ?_ ?_ ?_ ?_) ?_) ?_
    · rw [timesZ_succ hr]
      exact .snoc hR rowZ_len
    · exact slotq
    · exact slotq
    · exact slotq
    · exact slotq
    · exact slotq
    · rintro ex t' L' ⟨e1, e2, e3⟩
      exact ⟨e1, hKt.trans (Keep.trans (by exact keepq) e2), e3⟩
    · simp only [List.append_assoc]
      exact subq
theorem rTimes_ok (h11 : still ER c_phasorref06_Times_r11 = true) (h12 : still ER c_phasorref06_Times_r12 = true) (h14 : still ER c_phasorref06_Times_r14 = true) {n : Nat} {va vb : AVal} {a b : List (List Cx)} {L : Hp} (hn : n ≤ 64) (ha : MatZ va n a) (hb : MatZ vb n b) : CallO ER f_phasorref06_Times [va, vb] L fun r L' => MatZ r n (timesZ n a b) ∧ L' = L := by
  refine callO_iso1 (R := fun r => MatZ r n (timesZ n a b)) rfl n_phasorref06_Times (by simp [ha.bare, hb.bare]) ?_
  have ha0 := ha
  have hb0 := hb
  obtain ⟨a1, a2, ua, a3, a4, a5⟩ := ha
  obtain ⟨b1, b2, ub, b3, b4, b5⟩ := hb
  have ha1 := RowA.isOne a3
  have hb1 := RowA.isOne b3
  refine bodyO_of (Nat.le_of_ble_eq_true rfl) ?_; generalize ht : argSlots _ 0 .nil = t; have h0 : t.get 0 = some _ := (by rw [← ht]; rfl); have h1 : t.get 1 = some _ := (by rw [← ht]; rfl); clear ht
  repeat (first | intro id | refine goq ?_)
  refine WpO.weak (WpO.mono (rtimes_l2 h11 h12 h14 (im := id) (L := []) hn ha0 hb0 n 0 _ [] [] (by omega) .nil ?_ ?_ ?_ ?_ ?_) ?_) (by rw [Nat.sub_zero]; simp only [List.nil_append]; exact subq)
  · exact slotq
  · exact slotq
  · exact slotq
  · exact slotq
  · exact slotq
  rintro ex t1 L1 ⟨rfl, hK, us, H, hR, rfl⟩
  have g4 : t1.get 4 = some anil := (hK.ex 4 rfl).trans (by exact slotq)
  have g6 : t1.get 6 = some (.sl id 0 n 1 (some n)) := (hK.ex 6 rfl).trans (by exact slotq)
  clear hK
  refine blkO.x (seqO.n ?_)
  repeat (first | intro id | refine goq ?_)
  ((first | apply retO_r | apply retO_n); (focus (exact resq)))
  have hl := hR.lens
  have hlt : (timesZ n a b).length = n := by simp [timesZ]
  have hul : us.length = n := by rw [hR.len, hlt]
  obtain ⟨vs, h1, h2, h3⟩ := hR.view (M := (id, us) :: (H ++ [])) 61 (fun i c hi => .next hi.appl)
  refine ⟨.rs vs n (some n), vo_sl .here (by rw [Nat.mul_one]; exact seg_full hul) h1, hlt, fun i hi => ?_, vs, .inr ⟨_, rfl⟩, by omega, fun i hi => h3 i (by omega)⟩
  exact hl _ (by rw [List.getD_eq_getElem?_getD, List.getElem?_eq_getElem (by omega)]; exact List.getElem_mem _)
end Go.Proofs.YtmflheoafeenfaaGreat
namespace Go.Proofs.YtmflheoafeenfaaGreat
open Go.Am
set_option maxRecDepth 100000
/-- What a run by the kernel shows: an answer laid asq rows that stay. -/
theorem kernel_frz {E : Env} {L : Hp} {f : FuncId} {fn : AFn} {args : List AVal} {R : AVal → Prop} (n : Nat) (chk : AVal → Bool) (hm : E.mode f = .iso true) (hf : E.fns f = some fn) (hb : args.all AVal.bare = true) (hR : ∀ u, chk u = true → R u)
    (h : (match body E n fn args ⟨.nil, 0, 0⟩ with | some (v, m') => (match view m' 64 v with | some u => chk u | none => false) | none => false) = true) : CallO E f args L fun v L' => R v ∧ L' = L := by
  have : ∃ v m' u, body E n fn args ⟨.nil, 0, 0⟩ = some (v, m') ∧ view m' 64 v = some u ∧ chk u = true := by
    split at h
    · rename_i v m' h1
      split at h
      · rename_i u h2
        exact ⟨v, m', u, h1, h2, h⟩
      · cases h
    · cases h
  obtain ⟨v, m', u, h1, h2, h3⟩ := this
  refine ⟨fun m ho => (call_iso1 (R := R) hm hf hb ⟨n, v, m', h1, u, h2, hR u h3⟩).mono ?_⟩
  rintro v m1 ⟨h1, rfl⟩
  exact ⟨L, ho, h1, rfl⟩
def isCx : AVal → Cx → Bool
  | .sc (.complex .f64 a b), z => a == z.1 && b == z.2
  | _, _ => false
theorem isCx_eq {v : AVal} {z : Cx} (h : isCx v z = true) : v = ac z := by
  unfold isCx at h
  split at h
  · simp only [Bool.and_eq_true, beq_iff_eq] at h
    obtain ⟨rfl, rfl⟩ := h
    rfl
  · cases h
def isCxs : List AVal → List Cx → Bool
  | [], [] => true
  | v :: vs, z :: zs => isCx v z && isCxs vs zs
  | _, _ => false
theorem isCxs_eq : ∀ {vs : List AVal} {zs : List Cx}, isCxs vs zs = true → vs = zs.map ac
  | [], [], _ => rfl
  | v :: vs, z :: zs, h => by
    simp only [isCxs, Bool.and_eq_true] at h
    rw [isCx_eq h.1, isCxs_eq h.2]
    rfl
  | [], z :: zs, h => by cases h
  | v :: vs, [], h => by cases h
def isMat (n : Nat) (l : List Cx) : AVal → Bool
  | .tup [.agg [.sc (.int .i64 n'), .rs cs len _], .sc (.int .i64 e)] => n' == (n : Int) && len == l.length && isCxs cs l && e == 0
  | _ => false
theorem isMat_eq {n : Nat} {l : List Cx} {u : AVal} (hl : l.length = n * n) (h : isMat n l u = true) : ∃ v, u = .tup [v, aint 0] ∧ MatA v n l := by
  unfold isMat at h
  split at h
  · simp only [Bool.and_eq_true, beq_iff_eq] at h
    obtain ⟨⟨⟨rfl, rfl⟩, h3⟩, rfl⟩ := h
    rw [isCxs_eq h3]
    exact ⟨_, rfl, _, rfl, .inr ⟨_, rfl⟩, hl⟩
  · cases h
def matC1 : List Cx := [(4607182418800017408, 0), (0, 0), (0, 0), (4607182418800017408, 0)]
def matC2 : List Cx := [(0, 0), (4607182418800017408, 0), (4607182418800017408, 0), (0, 0)]
def matC3 : List Cx := [(0, 0), (0, 13830554455654793216), (0, 4607182418800017408), (0, 0)]
def matC4 : List Cx := [(4607182418800017408, 0), (0, 0), (0, 0), (13830554455654793216, 0)]
def matC5 : List Cx := [(4607182418800017408, 0), (0, 0), (0, 0), (0, 4607182418800017408)]
def matC6 : List Cx := [(4607182418800017408, 0), (0, 0), (0, 0), (0, 13830554455654793216)]
def matC7 : List Cx := [(4602678819172646912, 4602678819172646912), (4602678819172646912, 13826050856027422720), (4602678819172646912, 13826050856027422720), (4602678819172646912, 4602678819172646912)]
def matC8 : List Cx := [(4602678819172646912, 13826050856027422720), (4602678819172646912, 4602678819172646912), (4602678819172646912, 4602678819172646912), (4602678819172646912, 13826050856027422720)]
def matC9 : List Cx := [(4602678819172646912, 4602678819172646912), (13826050856027422720, 13826050856027422720), (4602678819172646912, 4602678819172646912), (4602678819172646912, 4602678819172646912)]
def matC10 : List Cx := [(4602678819172646912, 13826050856027422720), (4602678819172646912, 13826050856027422720), (13826050856027422720, 4602678819172646912), (4602678819172646912, 13826050856027422720)]
def matC11 : List Cx := [(4607182418800017408, 0), (0, 0), (0, 0), (0, 0), (0, 0), (0, 0), (0, 0), (4607182418800017408, 0), (0, 0), (0, 0), (4607182418800017408, 0), (0, 0), (0, 0), (4607182418800017408, 0), (0, 0), (0, 0)]
def matC12 : List Cx := [(4607182418800017408, 0), (0, 0), (0, 0), (0, 0), (0, 0), (0, 0), (0, 0), (0, 13830554455654793216), (0, 0), (0, 0), (4607182418800017408, 0), (0, 0), (0, 0), (0, 4607182418800017408), (0, 0), (0, 0)]
def matC13 : List Cx := [(4607182418800017408, 0), (0, 0), (0, 0), (0, 0), (0, 0), (4607182418800017408, 0), (0, 0), (0, 0), (0, 0), (0, 0), (4607182418800017408, 0), (0, 0), (0, 0), (0, 0), (0, 0), (13830554455654793216, 0)]
def matC14 : List Cx := [(4607182418800017408, 0), (0, 0), (0, 0), (0, 0), (0, 0), (0, 0), (4607182418800017408, 0), (0, 0), (0, 0), (4607182418800017408, 0), (0, 0), (0, 0), (0, 0), (0, 0), (0, 0), (4607182418800017408, 0)]
def matC15 : List Cx := [(4607182418800017408, 0), (0, 0), (0, 0), (0, 0), (0, 0), (0, 0), (0, 4607182418800017408), (0, 0), (0, 0), (0, 4607182418800017408), (0, 0), (0, 0), (0, 0), (0, 0), (0, 0), (4607182418800017408, 0)]
def matC16 : List Cx := [(4607182418800017408, 0), (0, 0), (0, 0), (0, 0), (0, 0), (0, 0), (0, 13830554455654793216), (0, 0), (0, 0), (0, 13830554455654793216), (0, 0), (0, 0), (0, 0), (0, 0), (0, 0), (4607182418800017408, 0)]
def matC17 : List Cx := [(4602678819172646912, 0), (4602678819172646912, 0), (4602678819172646912, 0), (4602678819172646912, 0), (4602678819172646912, 0), (13826050856027422720, 0), (4602678819172646912, 0), (13826050856027422720, 0), (4602678819172646912, 0), (4602678819172646912, 0), (13826050856027422720, 0), (13826050856027422720, 0), (4602678819172646912, 0), (13826050856027422720, 0), (13826050856027422720, 0), (4602678819172646912, 0)]
def matC18 : List Cx := [(4607182418800017408, 0), (0, 0), (0, 0), (0, 0), (0, 0), (0, 0), (0, 0), (0, 0), (0, 0), (4607182418800017408, 0), (0, 0), (0, 0), (0, 0), (0, 0), (0, 0), (0, 0), (0, 0), (0, 0), (4607182418800017408, 0), (0, 0), (0, 0), (0, 0), (0, 0), (0, 0), (0, 0), (0, 0), (0, 0), (0, 0), (0, 0), (0, 0), (0, 0), (4607182418800017408, 0), (0, 0), (0, 0), (0, 0), (0, 0), (4607182418800017408, 0), (0, 0), (0, 0), (0, 0), (0, 0), (0, 0), (0, 0), (0, 0), (0, 0), (4607182418800017408, 0), (0, 0), (0, 0), (0, 0), (0, 0), (0, 0), (0, 0), (0, 0), (0, 0), (4607182418800017408, 0), (0, 0), (0, 0), (0, 0), (0, 0), (4607182418800017408, 0), (0, 0), (0, 0), (0, 0), (0, 0)]
def matC19 : List Cx := [(4607182418800017408, 0), (0, 0), (0, 0), (0, 0), (0, 0), (0, 0), (0, 0), (0, 0), (0, 0), (4607182418800017408, 0), (0, 0), (0, 0), (0, 0), (0, 0), (0, 0), (0, 0), (0, 0), (0, 0), (4607182418800017408, 0), (0, 0), (0, 0), (0, 0), (0, 0), (0, 0), (0, 0), (0, 0), (0, 0), (4607182418800017408, 0), (0, 0), (0, 0), (0, 0), (0, 0), (0, 0), (0, 0), (0, 0), (0, 0), (4607182418800017408, 0), (0, 0), (0, 0), (0, 0), (0, 0), (0, 0), (0, 0), (0, 0), (0, 0), (4607182418800017408, 0), (0, 0), (0, 0), (0, 0), (0, 0), (0, 0), (0, 0), (0, 0), (0, 0), (4607182418800017408, 0), (0, 0), (0, 0), (0, 0), (0, 0), (0, 0), (0, 0), (0, 0), (0, 0), (13830554455654793216, 0)]
def matC20 : List Cx := [(4607182418800017408, 0), (0, 0), (0, 0), (0, 0), (0, 0), (0, 0), (0, 0), (0, 0), (0, 0), (4607182418800017408, 0), (0, 0), (0, 0), (0, 0), (0, 0), (0, 0), (0, 0), (0, 0), (0, 0), (4607182418800017408, 0), (0, 0), (0, 0), (0, 0), (0, 0), (0, 0), (0, 0), (0, 0), (0, 0), (0, 0), (0, 0), (4607182418800017408, 0), (0, 0), (0, 0), (0, 0), (0, 0), (0, 0), (0, 0), (4607182418800017408, 0), (0, 0), (0, 0), (0, 0), (0, 0), (0, 0), (0, 0), (4607182418800017408, 0), (0, 0), (0, 0), (0, 0), (0, 0), (0, 0), (0, 0), (0, 0), (0, 0), (0, 0), (0, 0), (4607182418800017408, 0), (0, 0), (0, 0), (0, 0), (0, 0), (0, 0), (0, 0), (0, 0), (0, 0), (4607182418800017408, 0)]
def matC (k : Int) : List Cx := match k.toNat with
  | 1 => matC1
  | 2 => matC2
  | 3 => matC3
  | 4 => matC4
  | 5 => matC5
  | 6 => matC6
  | 7 => matC7
  | 8 => matC8
  | 9 => matC9
  | 10 => matC10
  | 11 => matC11
  | 12 => matC12
  | 13 => matC13
  | 14 => matC14
  | 15 => matC15
  | 16 => matC16
  | 17 => matC17
  | 18 => matC18
  | 19 => matC19
  | 20 => matC20
  | _ => []
def dimK (k : Int) : Nat := 2 ^ (arity k).toNat
theorem matR1 {L : Hp} : CallO ER f_gate_Matrix [aint 1] L fun r L' => (∃ v, r = .tup [v, aint 0] ∧ MatA v 2 matC1) ∧ L' = L := kernel_frz 100000 (isMat 2 matC1) rfl n_gate_Matrix rfl (fun u h => isMat_eq (by kernel_rfl) h) (by kernel_rfl)
theorem matR2 {L : Hp} : CallO ER f_gate_Matrix [aint 2] L fun r L' => (∃ v, r = .tup [v, aint 0] ∧ MatA v 2 matC2) ∧ L' = L := kernel_frz 100000 (isMat 2 matC2) rfl n_gate_Matrix rfl (fun u h => isMat_eq (by kernel_rfl) h) (by kernel_rfl)
theorem matR3 {L : Hp} : CallO ER f_gate_Matrix [aint 3] L fun r L' => (∃ v, r = .tup [v, aint 0] ∧ MatA v 2 matC3) ∧ L' = L := kernel_frz 100000 (isMat 2 matC3) rfl n_gate_Matrix rfl (fun u h => isMat_eq (by kernel_rfl) h) (by kernel_rfl)
theorem matR4 {L : Hp} : CallO ER f_gate_Matrix [aint 4] L fun r L' => (∃ v, r = .tup [v, aint 0] ∧ MatA v 2 matC4) ∧ L' = L := kernel_frz 100000 (isMat 2 matC4) rfl n_gate_Matrix rfl (fun u h => isMat_eq (by kernel_rfl) h) (by kernel_rfl)
theorem matR5 {L : Hp} : CallO ER f_gate_Matrix [aint 5] L fun r L' => (∃ v, r = .tup [v, aint 0] ∧ MatA v 2 matC5) ∧ L' = L := kernel_frz 100000 (isMat 2 matC5) rfl n_gate_Matrix rfl (fun u h => isMat_eq (by kernel_rfl) h) (by kernel_rfl)
theorem matR6 {L : Hp} : CallO ER f_gate_Matrix [aint 6] L fun r L' => (∃ v, r = .tup [v, aint 0] ∧ MatA v 2 matC6) ∧ L' = L := kernel_frz 100000 (isMat 2 matC6) rfl n_gate_Matrix rfl (fun u h => isMat_eq (by kernel_rfl) h) (by kernel_rfl)
theorem matR7 {L : Hp} : CallO ER f_gate_Matrix [aint 7] L fun r L' => (∃ v, r = .tup [v, aint 0] ∧ MatA v 2 matC7) ∧ L' = L := kernel_frz 100000 (isMat 2 matC7) rfl n_gate_Matrix rfl (fun u h => isMat_eq (by kernel_rfl) h) (by kernel_rfl)
theorem matR8 {L : Hp} : CallO ER f_gate_Matrix [aint 8] L fun r L' => (∃ v, r = .tup [v, aint 0] ∧ MatA v 2 matC8) ∧ L' = L := kernel_frz 100000 (isMat 2 matC8) rfl n_gate_Matrix rfl (fun u h => isMat_eq (by kernel_rfl) h) (by kernel_rfl)
theorem matR9 {L : Hp} : CallO ER f_gate_Matrix [aint 9] L fun r L' => (∃ v, r = .tup [v, aint 0] ∧ MatA v 2 matC9) ∧ L' = L := kernel_frz 100000 (isMat 2 matC9) rfl n_gate_Matrix rfl (fun u h => isMat_eq (by kernel_rfl) h) (by kernel_rfl)
theorem matR10 {L : Hp} : CallO ER f_gate_Matrix [aint 10] L fun r L' => (∃ v, r = .tup [v, aint 0] ∧ MatA v 2 matC10) ∧ L' = L := kernel_frz 100000 (isMat 2 matC10) rfl n_gate_Matrix rfl (fun u h => isMat_eq (by kernel_rfl) h) (by kernel_rfl)
theorem matR11 {L : Hp} : CallO ER f_gate_Matrix [aint 11] L fun r L' => (∃ v, r = .tup [v, aint 0] ∧ MatA v 4 matC11) ∧ L' = L := kernel_frz 100000 (isMat 4 matC11) rfl n_gate_Matrix rfl (fun u h => isMat_eq (by kernel_rfl) h) (by kernel_rfl)
theorem matR12 {L : Hp} : CallO ER f_gate_Matrix [aint 12] L fun r L' => (∃ v, r = .tup [v, aint 0] ∧ MatA v 4 matC12) ∧ L' = L := kernel_frz 100000 (isMat 4 matC12) rfl n_gate_Matrix rfl (fun u h => isMat_eq (by kernel_rfl) h) (by kernel_rfl)
theorem matR13 {L : Hp} : CallO ER f_gate_Matrix [aint 13] L fun r L' => (∃ v, r = .tup [v, aint 0] ∧ MatA v 4 matC13) ∧ L' = L := kernel_frz 100000 (isMat 4 matC13) rfl n_gate_Matrix rfl (fun u h => isMat_eq (by kernel_rfl) h) (by kernel_rfl)
theorem matR14 {L : Hp} : CallO ER f_gate_Matrix [aint 14] L fun r L' => (∃ v, r = .tup [v, aint 0] ∧ MatA v 4 matC14) ∧ L' = L := kernel_frz 100000 (isMat 4 matC14) rfl n_gate_Matrix rfl (fun u h => isMat_eq (by kernel_rfl) h) (by kernel_rfl)
theorem matR15 {L : Hp} : CallO ER f_gate_Matrix [aint 15] L fun r L' => (∃ v, r = .tup [v, aint 0] ∧ MatA v 4 matC15) ∧ L' = L := kernel_frz 100000 (isMat 4 matC15) rfl n_gate_Matrix rfl (fun u h => isMat_eq (by kernel_rfl) h) (by kernel_rfl)
theorem matR16 {L : Hp} : CallO ER f_gate_Matrix [aint 16] L fun r L' => (∃ v, r = .tup [v, aint 0] ∧ MatA v 4 matC16) ∧ L' = L := kernel_frz 100000 (isMat 4 matC16) rfl n_gate_Matrix rfl (fun u h => isMat_eq (by kernel_rfl) h) (by kernel_rfl)
theorem matR17 {L : Hp} : CallO ER f_gate_Matrix [aint 17] L fun r L' => (∃ v, r = .tup [v, aint 0] ∧ MatA v 4 matC17) ∧ L' = L := kernel_frz 100000 (isMat 4 matC17) rfl n_gate_Matrix rfl (fun u h => isMat_eq (by kernel_rfl) h) (by kernel_rfl)
theorem matR18 {L : Hp} : CallO ER f_gate_Matrix [aint 18] L fun r L' => (∃ v, r = .tup [v, aint 0] ∧ MatA v 8 matC18) ∧ L' = L := kernel_frz 100000 (isMat 8 matC18) rfl n_gate_Matrix rfl (fun u h => isMat_eq (by kernel_rfl) h) (by kernel_rfl)
theorem matR19 {L : Hp} : CallO ER f_gate_Matrix [aint 19] L fun r L' => (∃ v, r = .tup [v, aint 0] ∧ MatA v 8 matC19) ∧ L' = L := kernel_frz 100000 (isMat 8 matC19) rfl n_gate_Matrix rfl (fun u h => isMat_eq (by kernel_rfl) h) (by kernel_rfl)
theorem matR20 {L : Hp} : CallO ER f_gate_Matrix [aint 20] L fun r L' => (∃ v, r = .tup [v, aint 0] ∧ MatA v 8 matC20) ∧ L' = L := kernel_frz 100000 (isMat 8 matC20) rfl n_gate_Matrix rfl (fun u h => isMat_eq (by kernel_rfl) h) (by kernel_rfl)
theorem kind_cases {k : Int} (h : arity k ≠ 0) : k = 1 ∨ k = 2 ∨ k = 3 ∨ k = 4 ∨ k = 5 ∨ k = 6 ∨ k = 7 ∨ k = 8 ∨ k = 9 ∨ k = 10 ∨ k = 11 ∨ k = 12 ∨ k = 13 ∨ k = 14 ∨ k = 15 ∨ k = 16 ∨ k = 17 ∨ k = 18 ∨ k = 19 ∨ k = 20 := by
  unfold arity at h
  split at h
  · simp at h
  · omega
theorem Matrix_ok {k : Int} (h : arity k ≠ 0) {L : Hp} : CallO ER f_gate_Matrix [aint k] L fun r L' => (∃ v, r = .tup [v, aint 0] ∧ MatA v (dimK k) (matC k)) ∧ L' = L := by
  rcases kind_cases h with rfl | rfl | rfl | rfl | rfl | rfl | rfl | rfl | rfl | rfl | rfl | rfl | rfl | rfl | rfl | rfl | rfl | rfl | rfl | rfl
  · exact matR1
  · exact matR2
  · exact matR3
  · exact matR4
  · exact matR5
  · exact matR6
  · exact matR7
  · exact matR8
  · exact matR9
  · exact matR10
  · exact matR11
  · exact matR12
  · exact matR13
  · exact matR14
  · exact matR15
  · exact matR16
  · exact matR17
  · exact matR18
  · exact matR19
  · exact matR20
end Go.Proofs.YtmflheoafeenfaaGreat
namespace Go.Proofs.YtmflheoafeenfaaGreat
open Go.Am
set_option maxRecDepth 100000
def isAf : AVal → Nat → Bool
  | .sc (.float .f64 a), x => a == x
  | _, _ => false
theorem isAf_eq {v : AVal} {x : Nat} (h : isAf v x = true) : v = af x := by
  unfold isAf at h
  split at h
  · rw [beq_iff_eq] at h
    subst h
    rfl
  · cases h
def isZs : List AVal → List Cx → Bool
  | [], [] => true
  | u :: v :: vs, z :: zs => isAf u z.1 && (isAf v z.2 && isZs vs zs)
  | _, _ => false
theorem isZs_eq : ∀ {vs : List AVal} {zs : List Cx}, isZs vs zs = true → vs = zcells zs
  | [], [], _ => rfl
  | u :: v :: vs, z :: zs, h => by
    simp only [isZs, Bool.and_eq_true] at h
    rw [isAf_eq h.1, isAf_eq h.2.1, isZs_eq h.2.2]
    rfl
  | [], z :: zs, h => by cases h
  | [v], zs, h => by cases zs <;> cases h
  | u :: v :: vs, [], h => by cases h
def isRowZ : AVal → List Cx → Bool
  | .rs cs len _, l => len == l.length && isZs cs l
  | _, _ => false
theorem isRowZ_eq {v : AVal} {l : List Cx} (h : isRowZ v l = true) : SlZ v l := by
  unfold isRowZ at h
  split at h
  · simp only [Bool.and_eq_true, beq_iff_eq] at h
    obtain ⟨rfl, h2⟩ := h
    rw [isZs_eq h2]
    exact .inr ⟨_, rfl⟩
  · cases h
def isRowsZ : List AVal → List (List Cx) → Bool
  | [], [] => true
  | v :: vs, l :: ls => isRowZ v l && isRowsZ vs ls
  | _, _ => false
theorem isRowsZ_eq : ∀ {vs : List AVal} {ls : List (List Cx)}, isRowsZ vs ls = true → vs.length = ls.length ∧ ∀ i, i < ls.length → ∃ u, vs[i]? = some u ∧ SlZ u (ls.getD i [])
  | [], [], _ => ⟨rfl, fun i h => by simp at h⟩
  | v :: vs, l :: ls, h => by
    simp only [isRowsZ, Bool.and_eq_true] at h
    obtain ⟨h1, h2⟩ := isRowsZ_eq h.2
    refine ⟨by simp [h1], fun i hi => ?_⟩
    cases i with
    | zero => exact ⟨v, rfl, isRowZ_eq h.1⟩
    | succ i => exact h2 i (by simpa using hi)
  | [], l :: ls, h => by cases h
  | v :: vs, [], h => by cases h
def isMatZ (n : Nat) (m : List (List Cx)) : AVal → Bool
  | .tup [.rs us len _, .sc (.int .i64 e)] => len == n && isRowsZ us m && e == 0
  | _ => false
theorem isMatZ_eq {n : Nat} {m : List (List Cx)} {u : AVal} (hl : (m.length == n && m.all fun r => r.length == n) = true) (h : isMatZ n m u = true) : ∃ v, u = .tup [v, aint 0] ∧ MatZ v n m := by
  rw [Bool.and_eq_true, beq_iff_eq] at hl
  obtain ⟨rfl, hl⟩ := hl
  unfold isMatZ at h
  split at h
  · simp only [Bool.and_eq_true, beq_iff_eq] at h
    obtain ⟨⟨rfl, h3⟩, rfl⟩ := h
    obtain ⟨h4, h5⟩ := isRowsZ_eq h3
    refine ⟨_, rfl, rfl, fun i hi => ?_, _, .inr ⟨_, rfl⟩, h4, h5⟩
    have := List.all_eq_true.1 hl (m.getD i []) (by rw [List.getD_eq_getElem?_getD, List.getElem?_eq_getElem hi]; exact List.getElem_mem hi)
    exact beq_iff_eq.1 this
  · cases h
def matZ1 : List (List Cx) := [[(4607182418800017408, 0), (0, 0)], [(0, 0), (4607182418800017408, 0)]]
def matZ2 : List (List Cx) := [[(0, 0), (4607182418800017408, 0)], [(4607182418800017408, 0), (0, 0)]]
def matZ3 : List (List Cx) := [[(0, 0), (0, 13830554455654793216)], [(0, 4607182418800017408), (0, 0)]]
def matZ4 : List (List Cx) := [[(4607182418800017408, 0), (0, 0)], [(0, 0), (13830554455654793216, 0)]]
def matZ5 : List (List Cx) := [[(4607182418800017408, 0), (0, 0)], [(0, 0), (0, 4607182418800017408)]]
def matZ6 : List (List Cx) := [[(4607182418800017408, 0), (0, 0)], [(0, 0), (0, 13830554455654793216)]]
def matZ7 : List (List Cx) := [[(4602678819172646912, 4602678819172646912), (4602678819172646912, 13826050856027422720)], [(4602678819172646912, 13826050856027422720), (4602678819172646912, 4602678819172646912)]]
def matZ8 : List (List Cx) := [[(4602678819172646912, 13826050856027422720), (4602678819172646912, 4602678819172646912)], [(4602678819172646912, 4602678819172646912), (4602678819172646912, 13826050856027422720)]]
def matZ9 : List (List Cx) := [[(4602678819172646912, 4602678819172646912), (13826050856027422720, 13826050856027422720)], [(4602678819172646912, 4602678819172646912), (4602678819172646912, 4602678819172646912)]]
def matZ10 : List (List Cx) := [[(4602678819172646912, 13826050856027422720), (4602678819172646912, 13826050856027422720)], [(13826050856027422720, 4602678819172646912), (4602678819172646912, 13826050856027422720)]]
def matZ11 : List (List Cx) := [[(4607182418800017408, 0), (0, 0), (0, 0), (0, 0)], [(0, 0), (0, 0), (0, 0), (4607182418800017408, 0)], [(0, 0), (0, 0), (4607182418800017408, 0), (0, 0)], [(0, 0), (4607182418800017408, 0), (0, 0), (0, 0)]]
def matZ12 : List (List Cx) := [[(4607182418800017408, 0), (0, 0), (0, 0), (0, 0)], [(0, 0), (0, 0), (0, 0), (0, 13830554455654793216)], [(0, 0), (0, 0), (4607182418800017408, 0), (0, 0)], [(0, 0), (0, 4607182418800017408), (0, 0), (0, 0)]]
def matZ13 : List (List Cx) := [[(4607182418800017408, 0), (0, 0), (0, 0), (0, 0)], [(0, 0), (4607182418800017408, 0), (0, 0), (0, 0)], [(0, 0), (0, 0), (4607182418800017408, 0), (0, 0)], [(0, 0), (0, 0), (0, 0), (13830554455654793216, 0)]]
def matZ14 : List (List Cx) := [[(4607182418800017408, 0), (0, 0), (0, 0), (0, 0)], [(0, 0), (0, 0), (4607182418800017408, 0), (0, 0)], [(0, 0), (4607182418800017408, 0), (0, 0), (0, 0)], [(0, 0), (0, 0), (0, 0), (4607182418800017408, 0)]]
def matZ15 : List (List Cx) := [[(4607182418800017408, 0), (0, 0), (0, 0), (0, 0)], [(0, 0), (0, 0), (0, 4607182418800017408), (0, 0)], [(0, 0), (0, 4607182418800017408), (0, 0), (0, 0)], [(0, 0), (0, 0), (0, 0), (4607182418800017408, 0)]]
def matZ16 : List (List Cx) := [[(4607182418800017408, 0), (0, 0), (0, 0), (0, 0)], [(0, 0), (0, 0), (0, 13830554455654793216), (0, 0)], [(0, 0), (0, 13830554455654793216), (0, 0), (0, 0)], [(0, 0), (0, 0), (0, 0), (4607182418800017408, 0)]]
def matZ17 : List (List Cx) := [[(4602678819172646912, 0), (4602678819172646912, 0), (4602678819172646912, 0), (4602678819172646912, 0)], [(4602678819172646912, 0), (13826050856027422720, 0), (4602678819172646912, 0), (13826050856027422720, 0)], [(4602678819172646912, 0), (4602678819172646912, 0), (13826050856027422720, 0), (13826050856027422720, 0)], [(4602678819172646912, 0), (13826050856027422720, 0), (13826050856027422720, 0), (4602678819172646912, 0)]]
def matZ18 : List (List Cx) := [[(4607182418800017408, 0), (0, 0), (0, 0), (0, 0), (0, 0), (0, 0), (0, 0), (0, 0)], [(0, 0), (4607182418800017408, 0), (0, 0), (0, 0), (0, 0), (0, 0), (0, 0), (0, 0)], [(0, 0), (0, 0), (4607182418800017408, 0), (0, 0), (0, 0), (0, 0), (0, 0), (0, 0)], [(0, 0), (0, 0), (0, 0), (0, 0), (0, 0), (0, 0), (0, 0), (4607182418800017408, 0)], [(0, 0), (0, 0), (0, 0), (0, 0), (4607182418800017408, 0), (0, 0), (0, 0), (0, 0)], [(0, 0), (0, 0), (0, 0), (0, 0), (0, 0), (4607182418800017408, 0), (0, 0), (0, 0)], [(0, 0), (0, 0), (0, 0), (0, 0), (0, 0), (0, 0), (4607182418800017408, 0), (0, 0)], [(0, 0), (0, 0), (0, 0), (4607182418800017408, 0), (0, 0), (0, 0), (0, 0), (0, 0)]]
def matZ19 : List (List Cx) := [[(4607182418800017408, 0), (0, 0), (0, 0), (0, 0), (0, 0), (0, 0), (0, 0), (0, 0)], [(0, 0), (4607182418800017408, 0), (0, 0), (0, 0), (0, 0), (0, 0), (0, 0), (0, 0)], [(0, 0), (0, 0), (4607182418800017408, 0), (0, 0), (0, 0), (0, 0), (0, 0), (0, 0)], [(0, 0), (0, 0), (0, 0), (4607182418800017408, 0), (0, 0), (0, 0), (0, 0), (0, 0)], [(0, 0), (0, 0), (0, 0), (0, 0), (4607182418800017408, 0), (0, 0), (0, 0), (0, 0)], [(0, 0), (0, 0), (0, 0), (0, 0), (0, 0), (4607182418800017408, 0), (0, 0), (0, 0)], [(0, 0), (0, 0), (0, 0), (0, 0), (0, 0), (0, 0), (4607182418800017408, 0), (0, 0)], [(0, 0), (0, 0), (0, 0), (0, 0), (0, 0), (0, 0), (0, 0), (13830554455654793216, 0)]]
def matZ20 : List (List Cx) := [[(4607182418800017408, 0), (0, 0), (0, 0), (0, 0), (0, 0), (0, 0), (0, 0), (0, 0)], [(0, 0), (4607182418800017408, 0), (0, 0), (0, 0), (0, 0), (0, 0), (0, 0), (0, 0)], [(0, 0), (0, 0), (4607182418800017408, 0), (0, 0), (0, 0), (0, 0), (0, 0), (0, 0)], [(0, 0), (0, 0), (0, 0), (0, 0), (0, 0), (4607182418800017408, 0), (0, 0), (0, 0)], [(0, 0), (0, 0), (0, 0), (0, 0), (4607182418800017408, 0), (0, 0), (0, 0), (0, 0)], [(0, 0), (0, 0), (0, 0), (4607182418800017408, 0), (0, 0), (0, 0), (0, 0), (0, 0)], [(0, 0), (0, 0), (0, 0), (0, 0), (0, 0), (0, 0), (4607182418800017408, 0), (0, 0)], [(0, 0), (0, 0), (0, 0), (0, 0), (0, 0), (0, 0), (0, 0), (4607182418800017408, 0)]]
def matZ (k : Int) : List (List Cx) := match k.toNat with
  | 1 => matZ1
  | 2 => matZ2
  | 3 => matZ3
  | 4 => matZ4
  | 5 => matZ5
  | 6 => matZ6
  | 7 => matZ7
  | 8 => matZ8
  | 9 => matZ9
  | 10 => matZ10
  | 11 => matZ11
  | 12 => matZ12
  | 13 => matZ13
  | 14 => matZ14
  | 15 => matZ15
  | 16 => matZ16
  | 17 => matZ17
  | 18 => matZ18
  | 19 => matZ19
  | 20 => matZ20
  | _ => []
theorem matX1 {L : Hp} : CallO ER f_phasorref06_Matrix [aint 1] L fun r L' => (∃ v, r = .tup [v, aint 0] ∧ MatZ v 2 matZ1) ∧ L' = L := kernel_frz 100000 (isMatZ 2 matZ1) rfl n_phasorref06_Matrix rfl (fun u h => isMatZ_eq (by kernel_rfl) h) (by kernel_rfl)
theorem matX2 {L : Hp} : CallO ER f_phasorref06_Matrix [aint 2] L fun r L' => (∃ v, r = .tup [v, aint 0] ∧ MatZ v 2 matZ2) ∧ L' = L := kernel_frz 100000 (isMatZ 2 matZ2) rfl n_phasorref06_Matrix rfl (fun u h => isMatZ_eq (by kernel_rfl) h) (by kernel_rfl)
theorem matX3 {L : Hp} : CallO ER f_phasorref06_Matrix [aint 3] L fun r L' => (∃ v, r = .tup [v, aint 0] ∧ MatZ v 2 matZ3) ∧ L' = L := kernel_frz 100000 (isMatZ 2 matZ3) rfl n_phasorref06_Matrix rfl (fun u h => isMatZ_eq (by kernel_rfl) h) (by kernel_rfl)
theorem matX4 {L : Hp} : CallO ER f_phasorref06_Matrix [aint 4] L fun r L' => (∃ v, r = .tup [v, aint 0] ∧ MatZ v 2 matZ4) ∧ L' = L := kernel_frz 100000 (isMatZ 2 matZ4) rfl n_phasorref06_Matrix rfl (fun u h => isMatZ_eq (by kernel_rfl) h) (by kernel_rfl)
theorem matX5 {L : Hp} : CallO ER f_phasorref06_Matrix [aint 5] L fun r L' => (∃ v, r = .tup [v, aint 0] ∧ MatZ v 2 matZ5) ∧ L' = L := kernel_frz 100000 (isMatZ 2 matZ5) rfl n_phasorref06_Matrix rfl (fun u h => isMatZ_eq (by kernel_rfl) h) (by kernel_rfl)
theorem matX6 {L : Hp} : CallO ER f_phasorref06_Matrix [aint 6] L fun r L' => (∃ v, r = .tup [v, aint 0] ∧ MatZ v 2 matZ6) ∧ L' = L := kernel_frz 100000 (isMatZ 2 matZ6) rfl n_phasorref06_Matrix rfl (fun u h => isMatZ_eq (by kernel_rfl) h) (by kernel_rfl)
theorem matX7 {L : Hp} : CallO ER f_phasorref06_Matrix [aint 7] L fun r L' => (∃ v, r = .tup [v, aint 0] ∧ MatZ v 2 matZ7) ∧ L' = L := kernel_frz 100000 (isMatZ 2 matZ7) rfl n_phasorref06_Matrix rfl (fun u h => isMatZ_eq (by kernel_rfl) h) (by kernel_rfl)
theorem matX8 {L : Hp} : CallO ER f_phasorref06_Matrix [aint 8] L fun r L' => (∃ v, r = .tup [v, aint 0] ∧ MatZ v 2 matZ8) ∧ L' = L := kernel_frz 100000 (isMatZ 2 matZ8) rfl n_phasorref06_Matrix rfl (fun u h => isMatZ_eq (by kernel_rfl) h) (by kernel_rfl)
theorem matX9 {L : Hp} : CallO ER f_phasorref06_Matrix [aint 9] L fun r L' => (∃ v, r = .tup [v, aint 0] ∧ MatZ v 2 matZ9) ∧ L' = L := kernel_frz 100000 (isMatZ 2 matZ9) rfl n_phasorref06_Matrix rfl (fun u h => isMatZ_eq (by kernel_rfl) h) (by kernel_rfl)
theorem matX10 {L : Hp} : CallO ER f_phasorref06_Matrix [aint 10] L fun r L' => (∃ v, r = .tup [v, aint 0] ∧ MatZ v 2 matZ10) ∧ L' = L := kernel_frz 100000 (isMatZ 2 matZ10) rfl n_phasorref06_Matrix rfl (fun u h => isMatZ_eq (by kernel_rfl) h) (by kernel_rfl)
theorem matX11 {L : Hp} : CallO ER f_phasorref06_Matrix [aint 11] L fun r L' => (∃ v, r = .tup [v, aint 0] ∧ MatZ v 4 matZ11) ∧ L' = L := kernel_frz 100000 (isMatZ 4 matZ11) rfl n_phasorref06_Matrix rfl (fun u h => isMatZ_eq (by kernel_rfl) h) (by kernel_rfl)
theorem matX12 {L : Hp} : CallO ER f_phasorref06_Matrix [aint 12] L fun r L' => (∃ v, r = .tup [v, aint 0] ∧ MatZ v 4 matZ12) ∧ L' = L := kernel_frz 100000 (isMatZ 4 matZ12) rfl n_phasorref06_Matrix rfl (fun u h => isMatZ_eq (by kernel_rfl) h) (by kernel_rfl)
theorem matX13 {L : Hp} : CallO ER f_phasorref06_Matrix [aint 13] L fun r L' => (∃ v, r = .tup [v, aint 0] ∧ MatZ v 4 matZ13) ∧ L' = L := kernel_frz 100000 (isMatZ 4 matZ13) rfl n_phasorref06_Matrix rfl (fun u h => isMatZ_eq (by kernel_rfl) h) (by kernel_rfl)
theorem matX14 {L : Hp} : CallO ER f_phasorref06_Matrix [aint 14] L fun r L' => (∃ v, r = .tup [v, aint 0] ∧ MatZ v 4 matZ14) ∧ L' = L := kernel_frz 100000 (isMatZ 4 matZ14) rfl n_phasorref06_Matrix rfl (fun u h => isMatZ_eq (by kernel_rfl) h) (by kernel_rfl)
theorem matX15 {L : Hp} : CallO ER f_phasorref06_Matrix [aint 15] L fun r L' => (∃ v, r = .tup [v, aint 0] ∧ MatZ v 4 matZ15) ∧ L' = L := kernel_frz 100000 (isMatZ 4 matZ15) rfl n_phasorref06_Matrix rfl (fun u h => isMatZ_eq (by kernel_rfl) h) (by kernel_rfl)
theorem matX16 {L : Hp} : CallO ER f_phasorref06_Matrix [aint 16] L fun r L' => (∃ v, r = .tup [v, aint 0] ∧ MatZ v 4 matZ16) ∧ L' = L := kernel_frz 100000 (isMatZ 4 matZ16) rfl n_phasorref06_Matrix rfl (fun u h => isMatZ_eq (by kernel_rfl) h) (by kernel_rfl)
theorem matX17 {L : Hp} : CallO ER f_phasorref06_Matrix [aint 17] L fun r L' => (∃ v, r = .tup [v, aint 0] ∧ MatZ v 4 matZ17) ∧ L' = L := kernel_frz 100000 (isMatZ 4 matZ17) rfl n_phasorref06_Matrix rfl (fun u h => isMatZ_eq (by kernel_rfl) h) (by kernel_rfl)
theorem matX18 {L : Hp} : CallO ER f_phasorref06_Matrix [aint 18] L fun r L' => (∃ v, r = .tup [v, aint 0] ∧ MatZ v 8 matZ18) ∧ L' = L := kernel_frz 100000 (isMatZ 8 matZ18) rfl n_phasorref06_Matrix rfl (fun u h => isMatZ_eq (by kernel_rfl) h) (by kernel_rfl)
theorem matX19 {L : Hp} : CallO ER f_phasorref06_Matrix [aint 19] L fun r L' => (∃ v, r = .tup [v, aint 0] ∧ MatZ v 8 matZ19) ∧ L' = L := kernel_frz 100000 (isMatZ 8 matZ19) rfl n_phasorref06_Matrix rfl (fun u h => isMatZ_eq (by kernel_rfl) h) (by kernel_rfl)
theorem matX20 {L : Hp} : CallO ER f_phasorref06_Matrix [aint 20] L fun r L' => (∃ v, r = .tup [v, aint 0] ∧ MatZ v 8 matZ20) ∧ L' = L := kernel_frz 100000 (isMatZ 8 matZ20) rfl n_phasorref06_Matrix rfl (fun u h => isMatZ_eq (by kernel_rfl) h) (by kernel_rfl)
theorem RMatrix_ok {k : Int} (h : arity k ≠ 0) {L : Hp} : CallO ER f_phasorref06_Matrix [aint k] L fun r L' => (∃ v, r = .tup [v, aint 0] ∧ MatZ v (dimK k) (matZ k)) ∧ L' = L := by
  rcases kind_cases h with rfl | rfl | rfl | rfl | rfl | rfl | rfl | rfl | rfl | rfl | rfl | rfl | rfl | rfl | rfl | rfl | rfl | rfl | rfl | rfl
  · exact matX1
  · exact matX2
  · exact matX3
  · exact matX4
  · exact matX5
  · exact matX6
  · exact matX7
  · exact matX8
  · exact matX9
  · exact matX10
  · exact matX11
  · exact matX12
  · exact matX13
  · exact matX14
  · exact matX15
  · exact matX16
  · exact matX17
  · exact matX18
  · exact matX19
  · exact matX20
end Go.Proofs.YtmflheoafeenfaaGreat
