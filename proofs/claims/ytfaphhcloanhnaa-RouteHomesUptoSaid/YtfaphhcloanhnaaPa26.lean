/- Parts of the proof, joined by program: LaHG, AmStay. -/
import Derived.Test.YtfaphhcloanhnaaPa25
import Derived.Test.YtfaphhcloanhnaaPa7
import Derived.Test.YtfaphhcloanhnaaPa19
set_option linter.unusedSimpArgs false
set_option linter.unusedVariables false
namespace Go.Proofs.Ytfaphhcloanhnaa
open Go.Am Go.Dist
set_option maxRecDepth 4000
set_option maxHeartbeats 16000000
section
variable {N : Nat} {ps : List (Nat × Nat)}
theorem up_lt (h : Good N ps) (h0 : 0 < N) : ∀ p, p < N → ∀ q ∈ upL (parT N ps) (rkT N ps) p, q < N := by
  have ht := tree_ok h h0
  refine upL_ind ht (fun _ q hq => by rw [upL_zero ht] at hq; simp at hq; omega) fun p hp ih hl q hq => ?_
  rw [upL_cons ht hp] at hq
  have hx : parT N ps p < N := by
    unfold parT
    rw [if_pos hl]
    exact (nbl_mem.1 (h.nxt hl h0 hp).1).1
  rcases List.mem_cons.1 hq with rfl | hq
  · exact hl
  · exact ih hx q hq
theorem upF_len (par : Nat → Nat) : ∀ n p, (upF par n p).length = n + 1
  | 0, p => rfl
  | n + 1, p => by simp [upF, upF_len par n]
theorem up_len (h : Good N ps) {p : Nat} (hp : p < N) : (upL (parT N ps) (rkT N ps) p).length ≤ N ∧ 0 < (upL (parT N ps) (rkT N ps) p).length := by
  unfold upL
  rw [upF_len]
  have := h.conn 0 p (by omega) hp
  unfold rkT
  rw [if_pos hp]
  omega
theorem way_len (h : Good N ps) {a b : Nat} (ha : a < N) (hb : b < N) : (wayP (parT N ps) (rkT N ps) a b).length ≤ 2 * N ∧ 0 < (wayP (parT N ps) (rkT N ps) a b).length := by
  have h1 := up_len h ha
  have h2 := up_len h hb
  unfold wayP
  simp only [List.length_append, List.length_take, List.length_reverse]
  omega
theorem way_lt (h : Good N ps) {a b : Nat} (ha : a < N) (hb : b < N) : ∀ q ∈ wayP (parT N ps) (rkT N ps) a b, q < N := by
  intro q hq
  unfold wayP at hq
  rcases List.mem_append.1 hq with hq | hq
  · exact up_lt h (by omega) a ha q (List.mem_of_mem_take hq)
  · exact up_lt h (by omega) b hb q (List.mem_of_mem_take (List.mem_reverse.1 hq))
theorem along_ok : ∀ (W : List Nat) (l : LaidW), (∀ q ∈ W, q < N) → PlOk N l.place → PlOk N (alongW W l).place
  | [], l, _, h => h
  | [a], l, _, h => h
  | a :: b :: r, l, hw, h => by
    unfold alongW
    refine along_ok (b :: r) _ (fun q hq => hw q (by simp at hq ⊢; exact .inr hq)) ?_
    have h1 := hw a (by simp)
    have h2 := hw b (by simp)
    exact h.swap ⟨by omega, by omega⟩ ⟨by omega, by omega⟩
theorem homeOne_ok (h : Good N ps) {l : LaidW} {p : Nat} (hp : p < N) (hl : l.place.length = N) (hP : PlOk N l.place) : PlOk N (homeOne (parT N ps) (rkT N ps) l p).place := by
  unfold homeOne
  have := hP.lo p (by omega)
  exact along_ok _ _ (way_lt h (by omega) hp) hP
end
theorem find_idx {l : List Nat} {q : Int → Bool} {p : Nat → Bool} {i : Nat} (hq : ∀ x, x ∈ l → q ((x : Nat) : Int) = p x) (h : IdxP (inat l) q i) : l.findIdx p = i ∧ i < l.length := by
  obtain ⟨h1, h2, h3⟩ := h.yes (by omega)
  rw [Int.toNat_natCast, inat_length] at h1
  rw [Int.toNat_natCast] at h2 h3
  refine ⟨(List.findIdx_eq h1).2 ⟨?_, fun j hj => ?_⟩, h1⟩
  · rw [inat_getD h1] at h2
    have e : l.getD i 0 = l[i] := by simp [h1]
    rw [e, hq _ (List.getElem_mem h1)] at h2
    exact h2
  · have h4 := h3 j hj
    have hjl : j < l.length := by omega
    rw [inat_getD hjl] at h4
    have e : l.getD j 0 = l[j] := by simp [hjl]
    rw [e, hq _ (List.getElem_mem hjl)] at h4
    exact h4
theorem mem_inat {x : Nat} {l : List Nat} : ((x : Nat) : Int) ∈ inat l ↔ x ∈ l := by
  unfold inat
  rw [List.mem_map]
  constructor
  · rintro ⟨a, h1, h2⟩
    have : a = x := by omega
    subst this
    exact h1
  · exact fun h => ⟨x, h, rfl⟩
variable {E : Env} {L : Hp}
theorem home2_ok (hF : E.fns = fnsT) (hm : E.mode f_route_Home_2 = .iso false) (hmc : E.mode f_slices_Contains_int_int = .iso false) (hmi : E.mode f_slices_Index_int_int = .iso false) {dv : AVal} {l : List Int} {x : Int} (hv : SlI dv l) (hlt : l.length < 2 ^ 62) :
    CallO E f_route_Home_2 [aint x, .ro [dv]] L fun v L' => v = abool (decide (x ∈ l)) ∧ L' = L := by
  refine callO_iso0 hm (fns_of hF n_route_Home_2) (vs_bare rfl (vs_bare (by simp only [AVal.bare, bareAll, bare_SlI hv]; rfl) vs_nil)) ?_
  have hv1 := RowA.isOne hv
  refine bodyO_of (Nat.le_of_ble_eq_true rfl) ?_; generalize ht : argSlots _ 0 .nil = t; have h0 : t.get 0 = some _ := (by rw [← ht]; rfl); have h1 : t.get 1 = some _ := (by rw [← ht]; rfl); clear ht
  repeat (first | intro id | refine goq ?_)
  refine gok ?_
  refine (contains_ok hF hmc hmi (vs_bare (bare_SlI hv) (vs_bare rfl vs_nil)) hv hlt).mono ?_
  rintro r L' ⟨rfl, rfl⟩
  repeat (first | intro id | refine goq ?_)
  ((first | apply retO_r | apply retO_n); (focus (exact resq)))
  exact ⟨rfl, rfl⟩
theorem idx_of {l : List Nat} {x i : Nat} (h : IdxI (inat l) x i) : l.idxOf x = i ∧ i < l.length := by
  obtain ⟨h1, h2, h3⟩ := h.yes (by omega)
  rw [Int.toNat_natCast, inat_length] at h1
  rw [Int.toNat_natCast] at h2 h3
  refine ⟨?_, h1⟩
  unfold List.idxOf
  refine (List.findIdx_eq h1).2 ⟨?_, fun j hj => ?_⟩
  · rw [inat_getD h1] at h2
    have e : l.getD i 0 = l[i] := by simp [h1]
    rw [e] at h2
    rw [beq_iff_eq]
    omega
  · have h4 := h3 j hj
    have hjl : j < l.length := by omega
    rw [inat_getD hjl] at h4
    have e : l.getD j 0 = l[j] := by simp [hjl]
    rw [e] at h4
    rw [beq_eq_false_iff_ne]
    omega
theorem homeRun_cons {par rk : Nat → Nat} {ord : List Nat} {k : Nat} (hk : k < ord.length) (l : LaidW) : homeRun par rk (ord.drop k) l = if 4096 < (homeOne par rk l (ord.getD k 0)).ops.length then none else homeRun par rk (ord.drop (k + 1)) (homeOne par rk l (ord.getD k 0)) := by
  rw [List.drop_eq_getElem_cons hk]
  have : ord.getD k 0 = ord[k] := by simp [hk]
  rw [this]
  rfl
/-- The way of one place, in the program's words. -/
theorem way_parts {par rk : Nat → Nat} {a b i j : Nat} (h1 : (upL par rk a).findIdx (fun x => (upL par rk b).contains x) = i) (h2 : (upL par rk b).idxOf ((upL par rk a).getD i 0) = j) : wayP par rk a b = (upL par rk a).take (i + 1) ++ ((upL par rk b).take j).reverse := by
  unfold wayP
  rw [h1, h2]
def P4 (N : Nat) (ps : List (Nat × Nat)) (ord : List Nat) (k : Nat) (l : LaidW) (il i4 : Nat) (R : Hp) (t : Tr AVal) (ex : Ex) (t' : Tr AVal) (L' : Hp) : Prop :=
  (ex = .exit 6 ∧ Keep [2, 4, 13, 14] t t' ∧ ∃ l' ov' pv' B', homeRun (parT N ps) (rkT N ps) (ord.drop k) l = some l' ∧ LaidB l'.d ov' pv' B' ∧ l'.place.length = N ∧ Am.Sub ((il, [ov', pv', aint l'.swaps]) :: (B' ++ ((i4, zeroR) :: R))) L') ∨
  (ex = .ret ∧ t'.get 4 = t.get 4 ∧ t'.get 5 = some (aint 201) ∧ homeRun (parT N ps) (rkT N ps) (ord.drop k) l = none ∧ Am.Sub ((i4, zeroR) :: R) L')
theorem P4.keep {N : Nat} {ps : List (Nat × Nat)} {ord : List Nat} {k : Nat} {l : LaidW} {il i4 : Nat} {R : Hp} {t t1 : Tr AVal} {ex : Ex} {t' : Tr AVal} {L' : Hp} (hK : Keep [2, 4, 13, 14] t t1) (h : P4 N ps ord k l il i4 R t1 ex t' L') : P4 N ps ord k l il i4 R t ex t' L' := by
  rcases h with ⟨h1, h2, h3⟩ | ⟨h1, h2, h3⟩
  · exact .inl ⟨h1, hK.trans h2, h3⟩
  · exact .inr ⟨h1, h2.trans (hK.ex 4 rfl), h3⟩
theorem home_l4 (hF : E.fns = fnsT) (hK : KnownAbove E) (hm : E.mode f_route_laid_swap = .open_) (hms : E.mode f_route_swap = .fresh) (hst : still E c_route_laid_swap_r0 = true) (hst34 : still E c_route_Home_r34 = true) (hst36 : still E c_route_Home_r36 = true) (hst38 : still E c_route_Home_r38 = true) (hst42 : still E c_route_Home_r42 = true)
    (hmu : E.mode f_route_up = .open_) (hmi : E.mode f_slices_IndexFunc_int_int = .iso false) (hmp : E.mode f_route_up_1 = .iso false) (hst3 : still E c_route_up_r3 = true) (hst1 : still E c_route_up_1_r1 = true) (hm2 : E.mode f_route_Home_2 = .iso false) (hmc : E.mode f_slices_Contains_int_int = .iso false) (hmix : E.mode f_slices_Index_int_int = .iso false) (hmr : E.mode f_slices_Reverse_int_int = .open_) (hstr : still E c_slices_Reverse_int_int_r2 = true)
    {N il io i12 ifr i4 : Nat} {ps : List (Nat × Nat)} {nv : AVal} {cap : Option Nat} {ord : List Nat} (hG : Good N ps) (hnv : SlS nv ((nbs N ps).map inat)) (hord : ∀ p ∈ ord, p < N) (hol : ord.length ≤ 64) :
    ∀ (d k : Nat) (t : Tr AVal) (l : LaidW) (ov pv : AVal) (B : Hp), d + k = ord.length → LaidB l.d ov pv B → l.ops.length ≤ 4096 → PlOk N l.place → l.place.length = N →
    t.get 4 = some (.ptr i4 0) → t.get 11 = some nv → t.get 12 = some (.ptr i12 0) → t.get 14 = some (.ptr il 0) → t.get 136 = some (.sl io 0 ord.length 1 cap) → t.get 137 = some (aint ord.length) → t.get 138 = some (aint k) →
    WpO E (.loop c_route_Home_l4) t ((il, [ov, pv, aint l.swaps]) :: (B ++ ((io, (inat ord).map aint) :: (i12, [.sl ifr 0 N 1 (some N)]) :: (ifr, (dist N ps 0).map aint) :: (i4, zeroR) :: L))) (fun ex t' L' => P4 N ps ord k l il i4 L t ex t' L') := by
  have hN := hG.hN
  have hio := inat_length ord
  have hdl := dist_len N ps 0
  intro d
  induction d with
  | zero =>
    intro k t l ov pv B hk hB hle hP hpl h4 h11 h12 h14 h136 h137 h138
    refine wo_loop ?_
    repeat (first | intro id | refine goq ?_)
    refine .inl ⟨rfl, by exact keepq, l, ov, pv, B, ?_, hB, hpl, by exact subq⟩
    rw [List.drop_of_length_le (by omega)]
    rfl
  | succ d ih =>
    intro k t l ov pv B hk hB hle hP hpl h4 h11 h12 h14 h136 h137 h138
    have hkl : k < ord.length := by omega
    obtain ⟨b, hb⟩ : ∃ b, b = ord.getD k 0 := ⟨_, rfl⟩
    have hbN : b < N := hord b (by rw [hb]; simp [hkl])
    have ho1 := inat_getD (l := ord) (j := k) hkl
    rw [← hb] at ho1
    have hlo := hP.lo b (by omega)
    obtain ⟨a, ha⟩ : ∃ a : Nat, l.place.getD b 0 = a := ⟨(l.place.getD b 0).toNat, by omega⟩
    have haN : a < N := by omega
    have hB0 := hB
    obtain ⟨cs, Bs, H, Pb, hbb, hob, hpb, hol1, hpl1, rfl⟩ := hB
    have ov1 := hbb.isOne
    have pv1 := hpb.isOne
    simp only [LaidW.d] at hbb hob hpb hol1 hpl1
    rcases bufInv hpb with ⟨-, -, h0, -⟩ | ⟨ip, rfl, rfl⟩
    · omega
    have hua := up_len hG haN
    have hub := up_len hG hbN
    have hwl := way_len hG haN hbN
    have hrun := homeRun_cons (par := parT N ps) (rk := rkT N ps) hkl l
    rw [← hb] at hrun
    have hone : homeOne (parT N ps) (rkT N ps) l b = alongW (wayP (parT N ps) (rkT N ps) a b) l := by
      unfold homeOne
      rw [ha, Int.toNat_natCast]
    refine wo_loop ?_
    have hPl := homeOne_ok hG hbN hpl hP
    have hll := (homeOne_len (par := parT N ps) (rk := rkT N ps) l b).2
    rw [hone] at hrun hPl hll
    obtain ⟨W, hW⟩ : ∃ W, W = wayP (parT N ps) (rkT N ps) a b := ⟨_, rfl⟩
    rw [← hW] at hwl hrun hPl hll
    have tail : ∀ (t2 : Tr AVal) (iw : Nat) (capW : Option Nat) (X : List Nat) (L2 : Hp), X.length ≤ 1000 → Keep [2, 4, 11, 12, 13, 14, 136, 137, 138] t t2 → t2.get 21 = some (.sl iw 0 W.length 1 capW) → t2.get 179 = some (aint ((W.length - 1 : Nat) : Int)) → t2.get 180 = some (aint ((0 : Nat) : Int)) →
        Am.Sub ((il, [ov, .sl ip 0 l.place.length 1 none, aint l.swaps]) :: ((Bs ++ (H ++ [(ip, l.place.map aint)])) ++ ((iw, (inat (W ++ X)).map aint) :: (io, (inat ord).map aint) :: (i12, [.sl ifr 0 N 1 (some N)]) :: (ifr, (dist N ps 0).map aint) :: (i4, zeroR) :: L))) L2 →
        WpO E (.loop c_route_Home_l3) t2 L2 (blkO 8 (seqO E (.seq (.reg c_route_Home_r44 false) (.cond (.t 200) (.seq (.reg c_route_Home_r45 false) .ret) .skip)) (blkO 7 (seqO E (.reg c_route_Home_r46 false) (seqO E (.loop c_route_Home_l4) fun ex t' L' => P4 N ps ord k l il i4 L t ex t' L'))))) := by
      intro t2 iw capW X L2 hX hKp e21 e179 e180 hsub
      have e14 := (hKp.ex 14 rfl).trans h14
      refine WpO.weak (WpO.mono (home_l3 (L := (io, (inat ord).map aint) :: (i12, [.sl ifr 0 N 1 (some N)]) :: (ifr, (dist N ps 0).map aint) :: (i4, zeroR) :: L) (il := il) (iw := iw) (cap := capW) (W := W) (X := X) hF hK hm hms hst hst42 hX (by omega) (by omega) (W.length - 1) 0 t2 l ov _ (Bs ++ (H ++ [(ip, l.place.map aint)])) (by omega) hB0 (by omega) e14 e21 e179 e180) ?_) hsub
      rintro ex t3 L3 ⟨rfl, hK3, ov', pv', B', hB', hs3⟩
      rw [List.drop_zero] at hB' hs3
      have hKt : Keep [2, 4, 11, 12, 13, 14, 136, 137, 138] t t3 := hKp.trans hK3
      have f4 := (hKt.ex 4 rfl).trans h4
      have f11 := (hKt.ex 11 rfl).trans h11
      have f12 := (hKt.ex 12 rfl).trans h12
      have f14 := (hKt.ex 14 rfl).trans h14
      have f136 := (hKt.ex 136 rfl).trans h136
      have f137 := (hKt.ex 137 rfl).trans h137
      have f138 := (hKt.ex 138 rfl).trans h138
      have hKs : Keep [2, 4, 13, 14] t t3 := hKt.less rfl
      have ih1 := ih (k + 1)
      generalize alongW W l = l' at *
      have hB1 := hB'
      obtain ⟨cs', Bs', H', Pb', hbb', hob', hpb', hol1', hpl1', rfl⟩ := hB'
      have ov1' := hbb'.isOne
      have pv1' := hpb'.isOne
      simp only [LaidW.d] at hbb'
      refine blkO.x (seqO.n (WpO.weak ?_ hs3))
      by_cases hbig : 4096 < l'.ops.length
      · unfold zeroR
        repeat (first | intro id | refine goq ?_)
        refine .inr ⟨rfl, ?_, ?_, by rw [hrun, if_pos hbig], ?_⟩
        · rw [h4]
          exact slotq
        · exact slotq
        · unfold zeroR
          exact subq
      · repeat (first | intro id | refine goq ?_)
        refine WpO.weak (WpO.mono (ih1 _ l' ov' pv' (Bs' ++ (H' ++ Pb')) (by omega) hB1 (by omega) hPl (by omega) ?_ ?_ ?_ ?_ ?_ ?_ ?_) ?_) ?_
        · exact slotq
        · exact slotq
        · exact slotq
        · exact slotq
        · exact slotq
        · exact slotq
        · exact slotq
        · intro ex t' L' h
          have h2 := h.keep (t := t) (by exact keepq)
          unfold P4 at h2 ⊢
          rw [hrun, if_neg hbig]
          exact h2
        · simp only [List.append_assoc]
          exact subq
    have hfv : SlI (.rs ((dist N ps 0).map aint) N (some N)) (dist N ps 0) := .inr ⟨some N, by rw [hdl]⟩
    have hsd : seg ((dist N ps 0).map aint) 0 (N * 1) = some ((dist N ps 0).map aint) := by rw [Nat.mul_one]; exact seg_full (by simp [hdl])
    have nv1 : nv.one = true := by obtain ⟨us, h1, -, -⟩ := hnv; exact RowA.isOne h1
    rw [List.append_assoc, List.append_assoc]
    repeat (first | intro id | refine goq ?_)
    rw [← hb]
    refine gok ?_
    refine (up_open hF hmu hmi hmp hst3 hst1 hG hnv hbN rfl hfv (fun M hM => vo_sl (hM _ _ (by exact inq)) hsd (vl_sc (sc_ints _)))).mono ?_
    rintro v L' ⟨idd, capd, rfl, hcapd, rfl⟩
    repeat (first | intro id | refine goq ?_)
    rw [ha]
    refine gok ?_
    refine (up_open hF hmu hmi hmp hst3 hst1 hG hnv haN rfl hfv (fun M hM => vo_sl (hM _ _ (by exact inq)) hsd (vl_sc (sc_ints _)))).mono ?_
    rintro v L' ⟨idw, capw, rfl, hcapw, rfl⟩
    have z0 : 0 ∈ upL (parT N ps) (rkT N ps) a := zero_mem (tree_ok hG (by omega)) a
    have z1 : 0 ∈ upL (parT N ps) (rkT N ps) b := zero_mem (tree_ok hG (by omega)) b
    generalize hU : upL (parT N ps) (rkT N ps) a = U at *
    generalize hV : upL (parT N ps) (rkT N ps) b = V at *
    have lU := inat_length U
    have lV := inat_length V
    have sU : seg ((inat U).map aint) 0 (U.length * 1) = some ((inat U).map aint) := by rw [Nat.mul_one]; exact seg_full (by simp [lU])
    have sV : seg ((inat V).map aint) 0 (V.length * 1) = some ((inat V).map aint) := by rw [Nat.mul_one]; exact seg_full (by simp [lV])
    have aU : SlI (.rs ((inat U).map aint) U.length capw) (inat U) := .inr ⟨capw, by rw [lU]⟩
    have aV : SlI (.rs ((inat V).map aint) V.length capd) (inat V) := .inr ⟨capd, by rw [lV]⟩
    repeat (first | intro id | refine goq ?_)
    refine gok ?_
    refine (indexf_ok (g := f_route_Home_2) (cv := [.ro [.rs ((inat V).map aint) V.length capd]]) (v := .rs ((inat U).map aint) U.length capw) (l := inat U) (p := fun x => decide (x ∈ inat V)) hF hmi ?_ aU (by omega) ?_).mono ?_
    · exact vs_view rfl (vo_sl (by exact inq) sU (vl_sc (sc_ints _))) (vs_view rfl (vo_fn vl_nil (vl_cons (vo_ptr (by exact inq) (by simp) (vl_cons (vo_sl (by exact inq) sV (vl_sc (sc_ints _))) vl_nil)) vl_nil)) vs_nil)
    · intro j hj
      exact home2_ok hF hm2 hmc hmix aV (by omega)
    rintro r L' ⟨⟨i, rfl, hi⟩, rfl⟩
    have hi0 : 0 ≤ i := by
      rcases hi.lo with e | e
      · obtain ⟨j, hj, e2⟩ := List.getElem_of_mem z0
        have h3 := of_decide_eq_false (hi.no (by omega) j (by omega))
        rw [inat_getD hj, List.getD_eq_getElem?_getD, List.getElem?_eq_getElem hj, Option.getD_some, e2] at h3
        exact (h3 (mem_inat.2 z1)).elim
      · exact e
    obtain ⟨j, rfl⟩ : ∃ j : Nat, i = j := ⟨i.toNat, by omega⟩
    obtain ⟨hfi, hjl⟩ := find_idx (p := fun x => V.contains x) (fun x hx => by rw [Bool.eq_iff_iff]; simp [mem_inat]) hi
    have hmem : U.getD j 0 ∈ V := by
      have h1 := of_decide_eq_true (hi.yes (by omega)).2.1
      rw [Int.toNat_natCast, inat_getD hjl] at h1
      exact mem_inat.1 h1
    repeat (first | intro id | refine goq ?_)
    refine gok ?_
    refine (index_ok (x := ((U.getD j 0 : Nat) : Int)) hF hmix (vs_view rfl (vo_sl (by exact inq) sV (vl_sc (sc_ints _))) vs_nil) aV (by omega)).mono ?_
    rintro r L' ⟨⟨i2, rfl, hi2⟩, rfl⟩
    have hi20 : 0 ≤ i2 := hi2.mem.2 (mem_inat.2 hmem)
    obtain ⟨j2, rfl⟩ : ∃ j2 : Nat, i2 = j2 := ⟨i2.toNat, by omega⟩
    obtain ⟨hio2, hj2l⟩ := idx_of hi2
    repeat (first | intro id | refine goq ?_)
    refine gok ?_
    refine CallO.weak (CallO.mono (reverse_open (L := (idw, (inat U).map aint) :: (id, [.sl idd 0 j2 1 capd]) :: (il, [ov, .sl ip 0 l.place.length 1 none, aint l.swaps]) :: (Bs ++ (H ++ ([(ip, l.place.map aint)] ++ (io, (inat ord).map aint) :: (i12, [.sl ifr 0 N 1 (some N)]) :: (ifr, (dist N ps 0).map aint) :: (i4, zeroR) :: L)))) hF hmr hstr (id := idd) (n := j2) (cap := capd) (l := inat V) (by omega) (by omega)) ?_) ?_
    · rintro v L' ⟨rfl, rfl⟩
      have sD : seg ((((inat V).take j2).reverse ++ (inat V).drop j2).map aint) 0 (j2 * 1) = some ((inat ((V.take j2).reverse)).map aint) := by
        rw [Nat.mul_one, List.map_append]
        have e : (((inat V).take j2).reverse).map aint = (inat ((V.take j2).reverse)).map aint := by simp [inat, List.map_take, List.map_reverse]
        rw [e]
        have hl : ((inat ((V.take j2).reverse)).map aint).length = j2 := by simp [inat]; omega
        unfold seg
        rw [if_pos (by rw [List.length_append, hl]; omega), List.drop_zero, List.take_append_of_le_length (by omega), List.take_of_length_le (by omega)]
      have sU1 : seg ((inat U).map aint) 0 ((j + 1) * 1) = some ((inat (U.take (j + 1))).map aint) := by
        unfold seg
        rw [if_pos (by simp [inat]; omega), Nat.mul_one]
        simp [inat, List.map_take]
      repeat (first | intro id | refine goq ?_)
      refine oo_p wanted_none (fun mm hmm => op_sliceMx (by exact slotq) (by exact slotq) (by exact slotq) (Nat.le_refl _) (by omega)) ?_
      repeat (first | intro id | refine goq ?_)
      by_cases hj0 : j2 = 0
      · subst hj0
        have hWe : W = U.take (j + 1) := by rw [hW, way_parts (i := j) (j := 0) (by rw [hU, hV]; exact hfi) (by rw [hU, hV]; exact hio2), hU]; simp
        have hWl : W.length = j + 1 := by rw [hWe, List.length_take]; omega
        refine oo_append0 wanted_none (by exact slotq) rfl (by exact slotq) rfl ?_
        repeat (first | intro id | refine goq ?_)
        refine tail _ idw (some (j + 1)) (U.drop (j + 1)) _ (by rw [List.length_drop]; omega) (by exact keepq) ?_ ?_ ?_ ?_
        · rw [hWl]
          exact slotq
        · rw [hWl]
          exact slotq
        · exact slotq
        · rw [hWe, List.take_append_drop]
          simp only [List.append_assoc]
          exact subq
      · have hWe : W = U.take (j + 1) ++ (V.take j2).reverse := by rw [hW, way_parts (i := j) (j := j2) (by rw [hU, hV]; exact hfi) (by rw [hU, hV]; exact hio2), hU, hV]
        have hWl : W.length = j + 1 + j2 := by rw [hWe, List.length_append, List.length_take, List.length_reverse, List.length_take]; omega
        refine oo_appendHS wanted_none (by exact slotq) (by exact inq) sU1 (all_one_ints _) (by exact slotq) (by exact inq) sD (by omega) (all_one_ints _) (by omega) (by omega) ?_
        intro idW
        repeat (first | intro id | refine goq ?_)
        refine tail _ idW none [] _ (by simp) (by exact keepq) ?_ ?_ ?_ ?_
        · rw [hWl]
          exact slotq
        · rw [hWl]
          exact slotq
        · exact slotq
        · rw [hWe, List.append_nil, inat_app, List.map_append]
          simp only [List.append_assoc]
          exact subq
    · exact subq
end Go.Proofs.Ytfaphhcloanhnaa
namespace Go.Am

/-- No box that was not there is there, but for new ones. -/
structure Stay (m m' : Mem) : Prop where
  next : m.next ≤ m'.next
  none_ : ∀ id, id < m.next → m.heap.get id = none → m'.heap.get id = none
theorem Stay.refl (m : Mem) : Stay m m := ⟨Nat.le_refl _, fun _ _ h => h⟩
theorem Stay.trans {a b c : Mem} (h : Stay a b) (k : Stay b c) : Stay a c :=
  ⟨Nat.le_trans h.next k.next, fun id hid hn => k.none_ id (Nat.lt_of_lt_of_le hid h.next) (h.none_ id hid hn)⟩
theorem stay_new (m : Mem) (b : Box) : Stay m (m.new b) := ⟨by simp [Mem.new], fun id h hn => by simp only [Mem.new, Tr.get_set]; rw [if_neg (by omega)]; exact hn⟩
theorem stay_put {m : Mem} {id : Nat} {b : Option Box} (h : m.heap.get id ≠ none ∨ b = none) : Stay m (m.put id b) := ⟨by simp [Mem.put], fun i hi hn => by
  simp only [Mem.put, Tr.get_set]
  by_cases e : i = id
  · subst e
    rw [if_pos rfl]
    rcases h with h | h
    · exact absurd hn h
    · exact h
  · rw [if_neg e]; exact hn⟩
theorem cells_some {m : Mem} {id : Nat} {cs : List AVal} (h : m.cells id = some cs) : m.heap.get id ≠ none := by
  unfold Mem.cells at h
  intro hn
  rw [hn] at h
  split at h <;> simp at h
theorem opVal_stay {s : Tr AVal} {m m' : Mem} {v : AVal} {o : AOp} (h : opVal s m o = some (v, m')) : Stay m m' := by
  cases o <;> simp only [opVal] at h
  all_goals (repeat' (split at h))
  all_goals (try (simp only [reduceCtorEq] at h; done))
  all_goals (try simp only [Option.map_eq_some_iff, Option.some.injEq, Prod.mk.injEq] at h)
  all_goals first
    | (obtain ⟨_, _, _, rfl⟩ := h; exact Stay.refl _)
    | (obtain ⟨_, rfl⟩ := h; exact Stay.refl _)
    | (obtain ⟨_, rfl⟩ := h; exact stay_new _ _)
    | (obtain ⟨_, rfl⟩ := h; exact stay_put (.inl (cells_some (by assumption))))
    | (obtain ⟨_, rfl⟩ := h; exact stay_put (.inr rfl))
    | (obtain ⟨_, rfl⟩ := h; exact (stay_put (.inr rfl)).trans (stay_new _ _))
def CfStay (cf : CallF) : Prop := ∀ g args m v m', cf g args m = some (v, m') → Stay m m'
section
variable {cf : CallF} {s s' : St} {m m' : Mem} {v : AVal}
theorem stepVal_stay (hcf : CfStay cf) {t : Tr AVal} {op : AOp} (h : stepVal cf t m op = some (v, m')) : Stay m m' := by
  unfold stepVal at h
  split at h
  · split at h
    · exact hcf _ _ _ _ _ h
    · simp at h
  · exact opVal_stay h
theorem stepO_stay (hcf : CfStay cf) {o : AO} (h : stepO cf o s = some s') : Stay s.mem s'.mem := by
  unfold stepO at h
  split at h
  · split at h
    · rename_i v m' hv
      simp only [Option.some.injEq] at h
      subst h
      exact stepVal_stay hcf hv
    · simp at h
  · simp only [Option.some.injEq] at h
    subst h
    exact Stay.refl _
  · simp at h
theorem stepOs_stay (hcf : CfStay cf) : ∀ {l : List AO} {s s' : St}, stepOs cf l s = some s' → Stay s.mem s'.mem
  | [], s, s', h => by
    simp only [stepOs, Option.some.injEq] at h
    subst h
    exact Stay.refl _
  | o :: l, s, s', h => by
    unfold stepOs at h
    split at h
    · rename_i s1 h1
      exact (stepO_stay hcf h1).trans (stepOs_stay hcf h)
    · simp at h
theorem effO_stay (hcf : CfStay cf) {o : AO} {e : Eff} (h : effO cf o s = some e) : Stay s.mem (e.app s).mem := by
  obtain ⟨h1, h2, h3, h4, h5, ⟨_, hall⟩, h6⟩ := effO_spec h
  rcases h6 with ⟨hw, m, hv, g1, g2, g3, g4⟩ | ⟨hw, g0, g1, g2, g3, g4, g5⟩
  · have hg := stepVal_stay hcf hv
    have hle : e.lo ≤ e.hi := by rw [h1, g2]; exact hg.next
    refine ⟨show s.mem.next ≤ e.hi by rw [← h1]; exact hle, fun id hid hn => ?_⟩
    rw [app_heap _ _ _ hall hle]
    by_cases c : Eff.cov id e = true
    · rw [if_pos c, g4]
      refine hg.none_ id hid ?_
      rw [restrict_get]
      split
      · exact hn
      · rfl
    · rw [if_neg c]
      exact hn
  · have hle : e.lo ≤ e.hi := by omega
    refine ⟨show s.mem.next ≤ e.hi by omega, fun id hid hn => ?_⟩
    rw [app_heap _ _ _ hall hle, if_neg]
    · exact hn
    · unfold Eff.cov
      rw [g1, g2, hall]
      simp
      intro; omega
theorem drawOs_stay (hcf : CfStay cf) : ∀ {l : List AO} {s : St} {r : St × List Eff}, drawOs cf l s = some r → Stay s.mem r.1.mem
  | [], s, r, h => by
    simp only [drawOs, Option.some.injEq] at h
    subst h
    exact Stay.refl _
  | o :: l, s, r, h => by
    unfold drawOs at h
    split at h
    · rename_i e he
      split at h
      · rename_i s1 es h1
        simp only [Option.some.injEq] at h
        subst h
        exact (effO_stay hcf he).trans (drawOs_stay (r := (s1, es)) hcf h1)
      · simp at h
    · simp at h
theorem drawn_stay (hcf : CfStay cf) {l : List AO} (h : drawn cf l s = some s') : Stay s.mem s'.mem := by
  unfold drawn at h
  split at h
  · rename_i s1 es h1
    split at h
    · simp only [Option.some.injEq] at h
      subst h
      exact drawOs_stay hcf h1
    · simp at h
  · simp at h
end
section
variable {E : Env}
structure StayN (E : Env) (n : Nat) : Prop where
  run : ∀ c s ex s', run E n c s = some (ex, s') → Stay s.mem s'.mem
  call : CfStay (callF E n)
  body : ∀ f args m v m', body E n f args m = some (v, m') → Stay m m'
theorem stay_step (hk : ∀ f args m v m', E.mode f = .known → E.known f args m = some (v, m') → Stay m m') {n : Nat} (ih : StayN E n) : StayN E (n + 1) := by
  refine ⟨fun c s ex s' h => ?_, fun g args m v m' h => ?_, fun f args m v m' h => ?_⟩
  · cases c with
    | skip => simp only [Am.run, Option.some.injEq, Prod.mk.injEq] at h; obtain ⟨_, rfl⟩ := h; exact Stay.refl _
    | exit id => simp only [Am.run, Option.some.injEq, Prod.mk.injEq] at h; obtain ⟨_, rfl⟩ := h; exact Stay.refl _
    | ret => simp only [Am.run, Option.some.injEq, Prod.mk.injEq] at h; obtain ⟨_, rfl⟩ := h; exact Stay.refl _
    | scope c => rw [Am.run] at h; exact ih.run _ _ _ _ h
    | reg ops d =>
      rw [Am.run] at h
      split at h
      · rename_i s1 hs
        simp only [Option.some.injEq, Prod.mk.injEq] at h
        obtain ⟨_, rfl⟩ := h
        split at hs
        · exact drawn_stay ih.call hs
        · exact stepOs_stay ih.call hs
      · simp at h
    | seq a b =>
      rw [Am.run] at h
      split at h
      · rename_i s1 hs
        exact (ih.run _ _ _ _ hs).trans (ih.run _ _ _ _ h)
      · exact ih.run _ _ _ _ h
    | cond c a b =>
      rw [Am.run] at h
      split at h
      · exact ih.run _ _ _ _ h
      · exact ih.run _ _ _ _ h
      · simp at h
    | blk id c =>
      rw [Am.run] at h
      split at h
      · rename_i j s1 hs
        have := ih.run _ _ _ _ hs
        split at h
        · simp only [Option.some.injEq, Prod.mk.injEq] at h
          obtain ⟨_, rfl⟩ := h
          exact this
        · simp only [Option.some.injEq, Prod.mk.injEq] at h
          obtain ⟨_, rfl⟩ := h
          exact this
      · exact ih.run _ _ _ _ h
    | loop c =>
      rw [Am.run] at h
      split at h
      · rename_i s1 hs
        exact (ih.run _ _ _ _ hs).trans (ih.run _ _ _ _ h)
      · exact ih.run _ _ _ _ h
  · cases g with
    | func f =>
      rw [callF] at h
      split at h
      · rename_i hm
        exact hk _ _ _ _ _ hm h
      · split at h
        · simp at h
        · split at h
          · rename_i v1 m1 hb
            simp only [Option.some.injEq, Prod.mk.injEq] at h
            obtain ⟨_, rfl⟩ := h
            have := ih.body _ _ _ _ _ hb
            exact ⟨this.next, this.none_⟩
          · simp at h
      · split at h
        · simp at h
        · split at h
          · simp at h
          · split at h
            · split at h
              · split at h
                · split at h
                  · simp only [Option.some.injEq, Prod.mk.injEq] at h
                    obtain ⟨_, rfl⟩ := h
                    exact Stay.refl _
                  · simp at h
                · simp at h
              · split at h
                · simp only [Option.some.injEq, Prod.mk.injEq] at h
                  obtain ⟨_, rfl⟩ := h
                  exact Stay.refl _
                · simp at h
            · simp at h
      · split at h
        · simp at h
        · split at h
          · split at h
            · rename_i v1 m1 hb
              simp only [Option.some.injEq, Prod.mk.injEq] at h
              obtain ⟨_, rfl⟩ := h
              have := ih.body _ _ _ _ _ hb
              refine ⟨this.next, fun id hid hn => ?_⟩
              show (mergeNew m.heap m1.heap m.next (m1.next - m.next)).get id = none
              rw [mergeNew_get, if_neg (by omega)]
              exact hn
            · simp at h
          · simp at h
    | _ => simp [callF] at h
  · rw [Am.body] at h
    split at h
    · split at h
      · rename_i s1 hs
        simp only [Option.map_eq_some_iff, Prod.mk.injEq] at h
        obtain ⟨_, _, _, rfl⟩ := h
        exact ih.run _ _ _ _ hs
      · rename_i s1 hs
        simp only [Option.map_eq_some_iff, Prod.mk.injEq] at h
        obtain ⟨_, _, _, rfl⟩ := h
        exact ih.run _ _ _ _ hs
      · simp at h
    · simp at h
theorem stay_all (hk : ∀ f args m v m', E.mode f = .known → E.known f args m = some (v, m') → Stay m m') : ∀ n, StayN E n
  | 0 => ⟨fun c s ex s' h => by simp [Am.run] at h, fun g args m v m' h => by simp [callF] at h, fun f args m v m' h => by simp [Am.body] at h⟩
  | n + 1 => stay_step hk (stay_all hk n)
end

/-! What may be come to -/
mutual
def AVal.wt : AVal → Nat
  | .agg vs => 1 + wtAll vs
  | .tup vs => 1 + wtAll vs
  | .fn _ a b => 1 + (wtAll a + wtAll b)
  | _ => 1
def wtAll : List AVal → Nat
  | [] => 0
  | v :: r => v.wt + wtAll r
end
mutual
def AVal.clo (P : Nat → Prop) : AVal → Prop
  | .agg vs => cloAll P vs
  | .tup vs => cloAll P vs
  | .fn _ a b => cloAll P a ∧ cloAll P b
  | .ptr id _ => P id
  | .sl id _ _ _ _ => P id
  | .mp id => P id
  | _ => True
def cloAll (P : Nat → Prop) : List AVal → Prop
  | [] => True
  | v :: r => v.clo P ∧ cloAll P r
end
theorem wtAll_app : ∀ (a b : List AVal), wtAll (a ++ b) = wtAll a + wtAll b
  | [], b => by simp [wtAll]
  | v :: a, b => by simp [wtAll, wtAll_app a b, Nat.add_assoc]
theorem cloAll_app {P : Nat → Prop} : ∀ {a b : List AVal}, cloAll P (a ++ b) ↔ cloAll P a ∧ cloAll P b
  | [], b => by simp [cloAll]
  | v :: a, b => by simp [cloAll, cloAll_app (a := a), and_assoc]
theorem wt_pos (v : AVal) : 1 ≤ v.wt := by cases v <;> simp [AVal.wt] <;> omega
def unseen (acc : List Nat) : Hp → Nat
  | [] => 0
  | p :: r => (if acc.contains p.1 then 0 else wtAll p.2) + unseen acc r
theorem unseen_le {acc : List Nat} {id : Nat} : ∀ (L : Hp), unseen (id :: acc) L ≤ unseen acc L
  | [] => Nat.le_refl _
  | p :: r => by
    have := unseen_le (acc := acc) (id := id) r
    simp only [unseen]
    by_cases h : acc.contains p.1 = true
    · rw [if_pos h, if_pos (by simp only [List.contains_cons, h, Bool.or_true])]
      omega
    · rw [if_neg h]
      split <;> omega
theorem unseen_in {acc : List Nat} {q : Nat × List AVal} (ha : acc.contains q.1 = false) : ∀ (L : Hp), q ∈ L → unseen (q.1 :: acc) L + wtAll q.2 ≤ unseen acc L
  | [], h => by cases h
  | p :: r, h => by
    simp only [unseen]
    rcases List.mem_cons.1 h with rfl | h
    · have := unseen_le (acc := acc) (id := q.1) r
      rw [if_pos (by simp), if_neg (by simp [ha] <;> simpa using ha)]
      omega
    · have := unseen_in ha r h
      by_cases h : acc.contains p.1 = true
      · rw [if_pos h, if_pos (by simp only [List.contains_cons, h, Bool.or_true])]
        omega
      · rw [if_neg h]
        split <;> omega
def Named (L : Hp) (i : Nat) : Prop := ∃ q ∈ L, q.1 = i
theorem reach_ok {h : Tr Box} {L : Hp} (hL : ∀ p ∈ L, h.get p.1 = some (.cells p.2)) (hc : ∀ p ∈ L, cloAll (Named L) p.2) : ∀ (f : Nat) (vs : List AVal) (acc : List Nat), cloAll (Named L) vs → wtAll vs + unseen acc L ≤ f →
    ∃ ids, reach h f vs acc = some ids ∧ (∀ i ∈ acc, i ∈ ids) ∧ (∀ i ∈ ids, i ∈ acc ∨ Named L i) ∧ cloAll (· ∈ ids) vs ∧ ∀ p ∈ L, p.1 ∈ ids → p.1 ∈ acc ∨ cloAll (· ∈ ids) p.2
  | f, [], acc, _, _ => ⟨acc, by cases f <;> rfl, fun _ h => h, fun _ h => .inl h, trivial, fun _ _ h => .inl h⟩
  | 0, v :: r, acc, _, hf => by
    have := wt_pos v
    simp only [wtAll] at hf
    omega
  | f + 1, v :: r, acc, hv, hf => by
    have hw := wt_pos v
    simp only [wtAll] at hf
    obtain ⟨hv1, hv2⟩ := hv
    have box : ∀ id, AVal.clo (Named L) v = Named L id → (∀ P, AVal.clo P v = P id) → (∀ acc, reach h (f + 1) (v :: r) acc = if acc.contains id then reach h f r acc else match h.get id with
      | some (.cells cs) => reach h f (cs ++ r) (id :: acc)
      | some (.map es _) => reach h f (es.map (·.2.1) ++ r) (id :: acc)
      | none => reach h f r (id :: acc)) → ∃ ids, reach h (f + 1) (v :: r) acc = some ids ∧ (∀ i ∈ acc, i ∈ ids) ∧ (∀ i ∈ ids, i ∈ acc ∨ Named L i) ∧ cloAll (· ∈ ids) (v :: r) ∧ ∀ p ∈ L, p.1 ∈ ids → p.1 ∈ acc ∨ cloAll (· ∈ ids) p.2 := by
      intro id e1 e2 e3
      rw [e1] at hv1
      obtain ⟨q, hq, rfl⟩ := hv1
      rw [e3]
      cases ha : acc.contains q.1 with
      | true =>
        obtain ⟨ids, k1, k2, k3, k4, k5⟩ := reach_ok hL hc f r acc hv2 (by omega)
        refine ⟨ids, by simpa using k1, k2, k3, ⟨?_, k4⟩, k5⟩
        rw [e2]
        exact k2 _ (by simpa using ha)
      | false =>
        have hu := unseen_in ha L hq
        obtain ⟨ids, k1, k2, k3, k4, k5⟩ := reach_ok hL hc f (q.2 ++ r) (q.1 :: acc) (cloAll_app.2 ⟨hc q hq, hv2⟩) (by rw [wtAll_app]; omega)
        refine ⟨ids, by simp only [Bool.false_eq_true, if_false, hL q hq]; exact k1, fun i hi => k2 i (by simp [hi]), fun i hi => ?_, ⟨?_, (cloAll_app.1 k4).2⟩, fun p hp hi => ?_⟩
        · rcases k3 i hi with h1 | h1
          · rcases List.mem_cons.1 h1 with rfl | h1
            · exact .inr ⟨q, hq, rfl⟩
            · exact .inl h1
          · exact .inr h1
        · rw [e2]
          exact k2 _ (by simp)
        · rcases k5 p hp hi with h1 | h1
          · rcases List.mem_cons.1 h1 with h1 | h1
            · have e4 := hL p hp
              rw [h1, hL q hq] at e4
              simp only [Option.some.injEq, Box.cells.injEq] at e4
              exact .inr (e4 ▸ (cloAll_app.1 k4).1)
            · exact .inl h1
          · exact .inr h1
    have skip : (∀ acc, reach h (f + 1) (v :: r) acc = reach h f r acc) → (∀ P, AVal.clo P v = True) → ∃ ids, reach h (f + 1) (v :: r) acc = some ids ∧ (∀ i ∈ acc, i ∈ ids) ∧ (∀ i ∈ ids, i ∈ acc ∨ Named L i) ∧ cloAll (· ∈ ids) (v :: r) ∧ ∀ p ∈ L, p.1 ∈ ids → p.1 ∈ acc ∨ cloAll (· ∈ ids) p.2 := by
      intro e3 e2
      obtain ⟨ids, k1, k2, k3, k4, k5⟩ := reach_ok hL hc f r acc hv2 (by omega)
      exact ⟨ids, by rw [e3]; exact k1, k2, k3, ⟨by rw [e2]; trivial, k4⟩, k5⟩
    have more : ∀ ws, (∀ acc, reach h (f + 1) (v :: r) acc = reach h f (ws ++ r) acc) → (∀ P, AVal.clo P v ↔ cloAll P ws) → v.wt = 1 + wtAll ws → ∃ ids, reach h (f + 1) (v :: r) acc = some ids ∧ (∀ i ∈ acc, i ∈ ids) ∧ (∀ i ∈ ids, i ∈ acc ∨ Named L i) ∧ cloAll (· ∈ ids) (v :: r) ∧ ∀ p ∈ L, p.1 ∈ ids → p.1 ∈ acc ∨ cloAll (· ∈ ids) p.2 := by
      intro ws e3 e2 e4
      obtain ⟨ids, k1, k2, k3, k4, k5⟩ := reach_ok hL hc f (ws ++ r) acc (cloAll_app.2 ⟨(e2 _).1 hv1, hv2⟩) (by rw [wtAll_app]; omega)
      exact ⟨ids, by rw [e3]; exact k1, k2, k3, ⟨(e2 _).2 (cloAll_app.1 k4).1, (cloAll_app.1 k4).2⟩, k5⟩
    cases v with
    | sc x => exact skip (fun _ => rfl) (fun _ => by simp [AVal.clo])
    | ro x => exact skip (fun _ => rfl) (fun _ => by simp [AVal.clo])
    | rs x y z => exact skip (fun _ => rfl) (fun _ => by simp [AVal.clo])
    | agg ws => exact more ws (fun _ => rfl) (fun _ => by simp [AVal.clo]) (by simp [AVal.wt])
    | tup ws => exact more ws (fun _ => rfl) (fun _ => by simp [AVal.clo]) (by simp [AVal.wt])
    | fn g a b => exact more (a ++ b) (fun _ => rfl) (fun _ => by simp [AVal.clo, cloAll_app]) (by simp [AVal.wt, wtAll_app])
    | ptr id off => exact box id (by simp [AVal.clo]) (fun _ => by simp [AVal.clo]) (fun _ => rfl)
    | sl id off len esz cap => exact box id (by simp [AVal.clo]) (fun _ => by simp [AVal.clo]) (fun _ => rfl)
    | mp id => exact box id (by simp [AVal.clo]) (fun _ => by simp [AVal.clo]) (fun _ => rfl)
end Go.Am
