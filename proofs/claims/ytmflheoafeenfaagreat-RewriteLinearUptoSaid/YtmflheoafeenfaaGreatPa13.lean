/- Parts of the proof, joined by program: RwS16, RwS17, RwS18, AmComp. -/
import Derived.Test.YtmflheoafeenfaaGreatPa12
import Derived.Test.YtmflheoafeenfaaGreatPa1
set_option linter.unusedSimpArgs false
set_option linter.unusedVariables false
namespace Go.Proofs.YtmflheoafeenfaaGreat
open Go.Am
set_option maxRecDepth 4000
set_option maxHeartbeats 8000000
variable {E : Env} {L : Hp}
def rsynHp (il : Nat) (s : SynS) (B H L : Hp) : Hp := (il, s.l.map au) :: (B ++ (H ++ L))
theorem rone2 (hF : E.fns = fnsT) (hm : E.mode f_phasorref18_one = .open_) {x y : Nat} {iq : Nat} {cap : Option Nat} (hin : In iq [aint (x : Int), aint (y : Int)] L) : CallO E f_phasorref18_one [aint 11, .sl iq 0 2 1 cap] L fun r L' => ∃ u B, OwnI u (cxD x y).qs B ∧ r = .agg (opCells u (cxD x y)) ∧ L' = B ++ L :=
  rone_open (l := [(x : Int), (y : Int)]) hF hm (by simp) (by simp) hin
theorem rsyn_l2 (hF : E.fns = fnsT) (hm1 : E.mode f_phasorref18_one = .open_) (hst : still E c_phasorref18_Synth_r25 = true) {n k il : Nat} {cap : Option Nat} (hn : n ≤ 64) (hk : k < n) :
    ∀ (d i : Nat) (t : Tr AVal) (s : SynS) (a : AVal) (cs : List AVal) (B H L : Hp), d + i = n → s.l.length = n → s.ps.length + d ≤ 100000 → BufO 6 a cs s.ps.length B → OpsB cs (synOps s.ps) H →
    t.get 4 = some (aint n) → t.get 5 = some (.sl il 0 n 1 cap) → t.get 7 = some a → t.get 8 = some (aint k) → t.get 10 = some (aint i) →
    WpO E (.loop c_phasorref18_Synth_l2) t (rsynHp il s B H L) (fun ex t' L' => ex = .exit 6 ∧ Keep [0, 2, 4, 5, 8] t t' ∧ ∃ a' cs' B' H', t'.get 7 = some a' ∧ BufO 6 a' cs' ((List.range' i d).foldl (rowS k) s).ps.length B' ∧ OpsB cs' (synOps ((List.range' i d).foldl (rowS k) s).ps) H' ∧ ((List.range' i d).foldl (rowS k) s).l.length = n ∧ Am.Sub (rsynHp il ((List.range' i d).foldl (rowS k) s) B' H' L) L') := by
  intro d
  induction d with
  | zero =>
    intro i t s a cs B H L hd hl hps hb ho h4 h5 h7 h8 h10
    obtain rfl : i = n := by omega
    have ha1 := hb.isOne
    refine wo_loop ?_
    repeat (first | intro id | refine goq ?_)
    exact ⟨rfl, by exact keepq, a, cs, B, H, by exact slotq, hb, ho, hl, Sub.refl _⟩
  | succ d ih =>
    intro i t s a cs B H L hd hl hps hb ho h4 h5 h7 h8 h10
    have hin : i < n := by omega
    have ha1 := hb.isOne
    have hgi := getAu (l := s.l) (i := i) (by omega)
    have hgk := getAu (l := s.l) (i := k) (by omega)
    have hll : (s.l.map au).length = n := by simp [hl]
    have hw : IntKind.wrap .u64 (k : Int) = (k : Int) := by show (k : Int) % 18446744073709551616 = k; omega
    have hz : (IntKind.wrap .u64 ((BitVec.ofInt (IntKind.bits .u64) ((gU s.l i).fdiv (2 ^ min ((k : Int)).toNat (IntKind.bits .u64))) &&& BitVec.ofInt (IntKind.bits .u64) 1).toNat : Int) == 1) = bitB (gU s.l i) k := rfl
    have hr : List.range' i (d + 1) = i :: List.range' (i + 1) d := rfl
    rw [hr, List.foldl_cons]
    unfold rsynHp
    refine wo_loop ?_
    by_cases hik : i = k
    · have e : rowS k s i = s := by unfold rowS; rw [if_neg (by simp [hik])]
      rw [e]
      repeat (first | intro id | refine goq ?_)
      refine WpO.mono (ih (i + 1) _ s a cs B H L (by omega) hl (by omega) hb ho ?_ ?_ ?_ ?_ ?_) ?_
      · exact slotq
      · exact slotq
      · exact slotq
      · exact slotq
      · exact slotq
      · rintro ex t' L' ⟨e1, e2, e3⟩
        exact ⟨e1, Keep.trans (by exact keepq) e2, e3⟩
    · repeat (first | intro id | refine goq ?_)
      rw [hw, hz]
      cases hbit : bitB (gU s.l i) k with
      | false =>
        have e : rowS k s i = s := by unfold rowS; rw [if_neg (by simp [hbit])]
        rw [e]
        repeat (first | intro id | refine goq ?_)
        refine WpO.mono (ih (i + 1) _ s a cs B H L (by omega) hl (by omega) hb ho ?_ ?_ ?_ ?_ ?_) ?_
        · exact slotq
        · exact slotq
        · exact slotq
        · exact slotq
        · exact slotq
        · rintro ex t' L' ⟨e1, e2, e3⟩
          exact ⟨e1, Keep.trans (by exact keepq) e2, e3⟩
      | true =>
        have e : rowS k s i = addS s k i := by unfold rowS; rw [if_pos ⟨hik, hbit⟩]
        rw [e]
        have hsl : (synOps s.ps).length = s.ps.length := by simp [synOps]
        have hset : (s.l.map au).set i (au (xorV (gU s.l i) (gU s.l k))) = (s.l.set i (xorV (gU s.l i) (gU s.l k))).map au := by simp
        repeat (first | intro id | refine goq ?_)
        refine gok ?_
        refine (rone2 hF hm1 .here).mono ?_
        rintro r L' ⟨u, Bq, hu, rfl, rfl⟩
        have hu1 := hu.isOne
        have huc : (opCells u (cxD k i)).all AVal.one = true := by simp only [opCells, List.all_cons, List.all_nil, hu1, Bool.and_true]; rfl
        repeat (first | intro id | refine goq ?_)
        have hps2 : (addS s k i).ps.length = s.ps.length + 1 := by simp [addS]
        have hso : synOps (addS s k i).ps = synOps s.ps ++ [cxD k i] := by simp [synOps, addS]
        have hb2 := hb.pushed (id := id) (nw := opCells u (cxD k i)) rfl huc
        have ho2 := ho.snoc (o := cxD k i) hu (by simp [cxD])
        refine WpO.weak (WpO.mono (ih (i + 1) _ (addS s k i) _ _ _ _ L (by omega) (by simp [addS, hl]) (by omega) (by rw [hps2]; exact hb2) (by rw [hso]; exact ho2) ?_ ?_ ?_ ?_ ?_) ?_) ?_
        · exact slotq
        · exact slotq
        · exact slotq
        · exact slotq
        · exact slotq
        · rintro ex t' L' ⟨e1, e2, e3⟩
          exact ⟨e1, Keep.trans (by exact keepq) e2, e3⟩
        · unfold rsynHp addS
          rw [← hset]
          simp only [List.append_assoc]
          exact subq
end Go.Proofs.YtmflheoafeenfaaGreat
namespace Go.Proofs.YtmflheoafeenfaaGreat
open Go.Am
set_option maxRecDepth 4000
set_option maxHeartbeats 8000000
variable {E : Env} {L : Hp}
theorem rsyn_l4 (hst : still E c_phasorref18_Synth_r32 = true) {T : List Trip} (hT : TrOk T) (hTl : T.length ≤ 1000000) {ic i11 : Nat} {n : Int} :
    ∀ (d : Nat) (t : Tr AVal) (a : AVal) (B L : Hp), d ≤ T.length → BufO 6 a (tpC (T.drop d).reverse) (T.length - d) B → t.get 7 = some (.sl ic 0 T.length 6 none) → t.get 11 = some (.ptr i11 0) → t.get 12 = some (aint ((d : Int) - 1)) → In ic (tpC T) L →
    WpO E (.loop c_phasorref18_Synth_l4) t ((i11, [aint n, aint 0, a]) :: (B ++ L)) (fun ex t' L' => ex = .exit 8 ∧ Keep [2, 11] t t' ∧ ∃ a' B', BufO 6 a' (tpC T.reverse) T.length B' ∧ L' = (i11, [aint n, aint 0, a']) :: (B' ++ L)) := by
  intro d
  induction d with
  | zero =>
    intro t a B L hd hb h7 h11 h12 hin
    have ha1 := hb.isOne
    refine wo_loop ?_
    repeat (first | intro id | refine goq ?_)
    exact ⟨rfl, by exact keepq, a, B, by simpa using hb, rfl⟩
  | succ d ih =>
    intro t a B L hd hb h7 h11 h12 hin
    have ha1 := hb.isOne
    have e : (((d + 1 : Nat) : Int) - 1) = (d : Int) := by omega
    rw [e] at h12
    obtain ⟨xs, p, ys, hTe, hxs⟩ : ∃ xs p ys, T = xs ++ p :: ys ∧ xs.length = d := ⟨T.take d, T[d], T.drop (d + 1), by rw [← List.drop_eq_getElem_cons (by omega), List.take_append_drop], by simp; omega⟩
    have hp := hT p (by rw [hTe]; simp)
    have hu1 := hp.1.isOne
    have hsg : seg (tpC T) (0 + d * 6) 6 = some (opCells p.u p.o) := by rw [Nat.zero_add, hTe]; exact tp_seg p hxs
    have hdr : (T.drop d).reverse = (T.drop (d + 1)).reverse ++ [p] := by
      rw [hTe, ← hxs]
      simp
    have htp : tpC (T.drop d).reverse = tpC (T.drop (d + 1)).reverse ++ opCells p.u p.o := by rw [hdr]; simp [tpC]
    have huc : (opCells p.u p.o).all AVal.one = true := by simp only [opCells, List.all_cons, List.all_nil, hu1, Bool.and_true]; rfl
    have hin2 := In.app (A := B) hin
    have htl := tpC_len T
    unfold opCells at hsg
    refine wo_loop ?_
    repeat (first | intro id | refine goq ?_)
    have hb2 := hb.pushed (id := id) (nw := opCells p.u p.o) rfl huc
    rw [← htp] at hb2
    have e2 : T.length - (d + 1) + 1 = T.length - d := by omega
    rw [e2] at hb2 ⊢
    refine WpO.weak (WpO.mono (ih _ _ _ L (by omega) hb2 ?_ ?_ ?_ hin) ?_) ?_
    · exact slotq
    · exact slotq
    · exact slotq
    · rintro ex t' L' ⟨e1, e2, e3⟩
      exact ⟨e1, Keep.trans (by exact keepq) e2, e3⟩
    · rw [htp]
      exact subq
def RsynQ (e : Option SynS) (i2 il n : Nat) (t : Tr AVal) (L : Hp) (ex : Ex) (t' : Tr AVal) (L' : Hp) : Prop :=
  match e with
  | some s => ex = .exit 2 ∧ Keep [0, 2, 4] t t' ∧ ∃ a cs B H, t'.get 7 = some a ∧ BufO 6 a cs s.ps.length B ∧ OpsB cs (synOps s.ps) H ∧ s.l.length = n ∧ s.ps.length ≤ 4096 ∧ Am.Sub ((i2, zeroC) :: rsynHp il s B H L) L'
  | none => ex = .ret ∧ t'.get 2 = some (.ptr i2 0) ∧ t'.get 3 = some (aint 2) ∧ In i2 zeroC L'
theorem rsyn_l3 (hF : E.fns = fnsT) (hm1 : E.mode f_phasorref18_one = .open_) (hst20 : still E c_phasorref18_Synth_r20 = true) (hst25 : still E c_phasorref18_Synth_r25 = true) {n i2 il : Nat} {cap : Option Nat} (hn : n ≤ 64) :
    ∀ (d k : Nat) (t : Tr AVal) (s : SynS) (a : AVal) (cs : List AVal) (B H L : Hp), d + k = n → s.l.length = n → s.ps.length ≤ k * 64 → BufO 6 a cs s.ps.length B → OpsB cs (synOps s.ps) H →
    t.get 2 = some (.ptr i2 0) → t.get 4 = some (aint n) → t.get 5 = some (.sl il 0 n 1 cap) → t.get 7 = some a → t.get 8 = some (aint k) →
    WpO E (.loop c_phasorref18_Synth_l3) t ((i2, zeroC) :: rsynHp il s B H L) (RsynQ (synS n d k s) i2 il n t L) := by
  intro d
  induction d with
  | zero =>
    intro k t s a cs B H L hd hl hps hb ho h2 h4 h5 h7 h8
    obtain rfl : k = n := by omega
    have ha1 := hb.isOne
    refine wo_loop ?_
    unfold rsynHp zeroC
    repeat (first | intro id | refine goq ?_)
    exact ⟨rfl, by exact keepq, a, cs, B, H, by exact slotq, hb, ho, hl, by omega, Sub.refl _⟩
  | succ d ih =>
    intro k t s a cs B H L hd hl hps hb ho h2 h4 h5 h7 h8
    have hkn : k < n := by omega
    have ha1 := hb.isOne
    have hgk := getAu (l := s.l) (i := k) (by omega)
    have hll : (s.l.map au).length = n := by simp [hl]
    have tail : ∀ (t1 : Tr AVal) (s1 : SynS) (a1 : AVal) (cs1 : List AVal) (B1 H1 Lx : Hp), colS n s k = some ((List.range n).foldl (rowS k) s1) → s1.l.length = n → s1.ps.length ≤ k * 64 + 1 → BufO 6 a1 cs1 s1.ps.length B1 → OpsB cs1 (synOps s1.ps) H1 → Keep [0, 2, 4, 5, 8] t t1 → t1.get 7 = some a1 → t1.get 10 = some (aint ((0 : Nat) : Int)) →
        Am.Sub ((i2, zeroC) :: rsynHp il s1 B1 H1 L) Lx →
        WpO E (.loop c_phasorref18_Synth_l2) t1 Lx (blkO 6 (blkO 3 (seqO E (AC.reg c_phasorref18_Synth_r28 false) (seqO E (.loop c_phasorref18_Synth_l3) (RsynQ (synS n (d + 1) k s) i2 il n t L))))) := by
      intro t1 s1 a1 cs1 B1 H1 Lx hcol e2 e3 hb1 ho1 hK g7 g10 hsub
      refine WpO.weak (WpO.mono (rsyn_l2 hF hm1 hst25 (il := il) (cap := cap) hn hkn n 0 t1 s1 a1 cs1 B1 H1 ((i2, zeroC) :: L) (by omega) e2 (by omega) hb1 ho1 ((hK.ex 4 rfl).trans h4) ((hK.ex 5 rfl).trans h5) g7 ((hK.ex 8 rfl).trans h8) g10) ?_) (Sub.trans ?_ hsub)
      · rintro ex t2 L2 ⟨rfl, hK2, a2, cs2, B2, H2, q7, hb2, ho2, hl2, hsub2⟩
        rw [← List.range_eq_range'] at hb2 ho2 hl2 hsub2
        have hps2 := foldl_rowS_col hkn s1
        have hs' : synS n (d + 1) k s = synS n d (k + 1) ((List.range n).foldl (rowS k) s1) := by simp only [synS, hcol]
        rw [hs']
        generalize (List.range n).foldl (rowS k) s1 = s2 at *
        have hK3 : Keep [0, 2, 4, 5, 8] t t2 := hK.trans hK2
        have q2 := (hK3.ex 2 rfl).trans h2
        have q4 := (hK3.ex 4 rfl).trans h4
        have q5 := (hK3.ex 5 rfl).trans h5
        have q8 := (hK3.ex 8 rfl).trans h8
        have ha2 := hb2.isOne
        refine blkO.x (blkO.n (seqO.n (WpO.weak ?_ hsub2)))
        unfold rsynHp
        repeat (first | intro id | refine goq ?_)
        refine WpO.weak (WpO.mono (ih (k + 1) _ s2 a2 cs2 B2 H2 L (by omega) hl2 (by omega) hb2 ho2 ?_ ?_ ?_ ?_ ?_) ?_) ?_
        · exact slotq
        · exact slotq
        · exact slotq
        · exact slotq
        · exact slotq
        · intro ex t3 L3 h
          unfold RsynQ at h ⊢
          split at h
          · obtain ⟨r1, r2, r3⟩ := h
            have hK4 : Keep [0, 2, 4] t t2 := hK3.less rfl
            exact ⟨r1, hK4.trans (Keep.trans (by exact keepq) r2), r3⟩
          · exact h
        · unfold rsynHp
          exact subq
      · unfold rsynHp
        exact subq
    refine wo_loop ?_
    unfold rsynHp zeroC
    repeat (first | intro id | refine goq ?_)
    refine WpO.mono (rsyn_l1 (n := n) (k := k) (il := il) (cap := cap) (l := s.l) hn hl n k _ _ (by omega) (by omega) (.next .here) ?_ ?_ ?_ ?_ hkn) ?_
    · exact slotq
    · exact slotq
    · exact slotq
    · exact slotq
    rintro ex t1 L1 ⟨rfl, hK1, k9, rfl⟩
    have g2 : t1.get 2 = some (.ptr i2 0) := (hK1.ex 2 rfl).trans (by exact slotq)
    have g4 : t1.get 4 = some (aint n) := (hK1.ex 4 rfl).trans (by exact slotq)
    have g5 : t1.get 5 = some (.sl il 0 n 1 cap) := (hK1.ex 5 rfl).trans (by exact slotq)
    have g7 : t1.get 7 = some a := (hK1.ex 7 rfl).trans (by exact slotq)
    have g8 : t1.get 8 = some (aint k) := (hK1.ex 8 rfl).trans (by exact slotq)
    have hKt : Keep [0, 2, 4, 5, 8] t t1 := Keep.trans (by exact keepq) (hK1.less rfl)
    clear hK1
    have hcol0 : colS n s k = if seekS s.l n k n k = n then none else some ((List.range n).foldl (rowS k) (if seekS s.l n k n k = k then s else addS s (seekS s.l n k n k) k)) := rfl
    have hle : k ≤ seekS s.l n k n k ∧ seekS s.l n k n k ≤ n := by
      have : ∀ (d r : Nat), r ≤ n → r ≤ seekS s.l n k d r ∧ seekS s.l n k d r ≤ n := by
        intro d
        induction d with
        | zero => intro r hr; exact ⟨Nat.le_refl _, hr⟩
        | succ d ih =>
          intro r hr
          unfold seekS
          split
          · have := ih (r + 1) (by omega)
            omega
          · exact ⟨Nat.le_refl _, hr⟩
      exact this n k (by omega)
    generalize seekS s.l n k n k = r at *
    refine blkO.x (seqO.n ?_)
    by_cases hrn : r = n
    · rw [if_pos hrn] at hcol0
      have hs' : synS n (d + 1) k s = none := by simp only [synS, hcol0]
      rw [hs']
      repeat (first | intro id | refine goq ?_)
      exact ⟨rfl, by exact slotq, by exact slotq, .here⟩
    · rw [if_neg hrn] at hcol0
      by_cases hrk : r = k
      · rw [if_pos hrk] at hcol0
        repeat (first | intro id | refine goq ?_)
        refine tail _ s a cs B H _ hcol0 hl (by omega) hb ho ?_ ?_ ?_ ?_
        · exact hKt.trans (by exact keepq)
        · exact slotq
        · exact slotq
        · unfold rsynHp zeroC
          exact subq
      · rw [if_neg hrk] at hcol0
        have hgr := getAu (l := s.l) (i := r) (by omega)
        have hsl : (synOps s.ps).length = s.ps.length := by simp [synOps]
        have hset : (s.l.map au).set k (au (xorV (gU s.l k) (gU s.l r))) = (s.l.set k (xorV (gU s.l k) (gU s.l r))).map au := by simp
        repeat (first | intro id | refine goq ?_)
        refine gok ?_
        refine (rone2 hF hm1 .here).mono ?_
        rintro q L' ⟨u, Bq, hu, rfl, rfl⟩
        have hu1 := hu.isOne
        have huc : (opCells u (cxD r k)).all AVal.one = true := by simp only [opCells, List.all_cons, List.all_nil, hu1, Bool.and_true]; rfl
        repeat (first | intro id | refine goq ?_)
        have hps2 : (addS s r k).ps.length = s.ps.length + 1 := by simp [addS]
        have hso : synOps (addS s r k).ps = synOps s.ps ++ [cxD r k] := by simp [synOps, addS]
        have hb2 := hb.pushed (id := id) (nw := opCells u (cxD r k)) rfl huc
        have ho2 := ho.snoc (o := cxD r k) hu (by simp [cxD])
        refine tail _ (addS s r k) _ _ _ _ _ hcol0 (by simp [addS, hl]) (by omega) (by rw [hps2]; exact hb2) (by rw [hso]; exact ho2) ?_ ?_ ?_ ?_
        · exact hKt.trans (by exact keepq)
        · exact slotq
        · exact slotq
        · unfold rsynHp addS zeroC
          rw [← hset]
          simp only [List.append_assoc]
          exact subq
end Go.Proofs.YtmflheoafeenfaaGreat
namespace Go.Proofs.YtmflheoafeenfaaGreat
open Go.Am
set_option maxRecDepth 4000
set_option maxHeartbeats 8000000
variable {E : Env} {L : Hp}
theorem In.of_mem {id : Nat} {cs : List AVal} : ∀ {M : Hp}, (id, cs) ∈ M → In id cs M
  | [], h => (List.not_mem_nil h).elim
  | p :: M, h => by
    rcases List.mem_cons.1 h with rfl | h
    · exact .here
    · exact .next (In.of_mem h)
def RSynA (l : List Int) (r : AVal) : Prop := (synAll l = none ∧ r = .tup [.agg zeroC, aint 2]) ∨ ∃ ps v, synAll l = some ps ∧ ps.length ≤ 4096 ∧ r = .tup [v, aint 0] ∧ CircA v ⟨l.length, 0, (synOps ps).reverse⟩
theorem overB_64 {x : Int} (h0 : 0 ≤ x) (h1 : x < 2 ^ 64) : overB x 64 = false := by
  unfold overB shrV
  have : x.fdiv (2 ^ min 64 64) = 0 := by
    rw [Int.fdiv_eq_ediv_of_nonneg _ (by decide)]
    exact Int.ediv_eq_zero_of_lt h0 (by simpa using h1)
  rw [this]
  rfl
theorem rSynth_ok (hF : E.fns = fnsT) (hm : E.mode f_phasorref18_Synth = .iso true) (hm1 : E.mode f_phasorref18_one = .open_) (hst20 : still E c_phasorref18_Synth_r20 = true) (hst25 : still E c_phasorref18_Synth_r25 = true) (hst32 : still E c_phasorref18_Synth_r32 = true)
    {s : AVal} {l : List Int} (hs : SlU s l) (hl : l.length ≤ 2000000) (hrg : ∀ x ∈ l, 0 ≤ x ∧ x < 2 ^ 64) : CallO E f_phasorref18_Synth [s] L fun r L' => RSynA l r ∧ L' = L := by
  refine callO_iso1 (R := RSynA l) hm (fns_of hF n_phasorref18_Synth) (by simp [bare_SlU hs]) ?_
  have hs0 := hs
  unfold SlU at hs
  have hs1 := RowA.isOne hs
  have h64 : l.length = 64 → l.any (fun x => overB x l.length) = false := by
    intro e
    rw [e, List.any_eq_false]
    intro x hx
    rw [overB_64 (hrg x hx).1 (hrg x hx).2]
    simp
  by_cases hn : 64 < l.length
  · have hno : synAll l = none := by unfold synAll; rw [if_pos (.inl hn)]
    refine bodyO_of (Nat.le_of_ble_eq_true rfl) ?_; generalize ht : argSlots _ 0 .nil = t; have h0 : t.get 0 = some _ := (by rw [← ht]; rfl); clear ht
    repeat (first | intro id | refine goq ?_)
    ((first | apply retO_r | apply retO_n); (focus (exact resq)))
    exact ⟨.tup [.agg zeroC, aint 2], vo_zeroC, .inl ⟨hno, rfl⟩⟩
  · refine bodyO_of (Nat.le_of_ble_eq_true rfl) ?_; generalize ht : argSlots _ 0 .nil = t; have h0 : t.get 0 = some _ := (by rw [← ht]; rfl); clear ht
    repeat (first | intro id | refine goq ?_)
    obtain ⟨i2, rfl⟩ : ∃ i2, i2 = id := ⟨_, rfl⟩
    refine WpO.mono (rsyn_l0 (L := []) (i2 := i2) hs0 (n := l.length) (by omega) rfl h64 l.length 0 _ anil [] (by omega) ?_ ?_ ?_ ?_ ?_ .nil rfl) ?_
    · exact slotq
    · exact slotq
    · exact slotq
    · exact slotq
    · exact slotq
    intro ex t1 L1 h
    unfold RcpQ at h
    split at h
    · rename_i hov
      obtain ⟨rfl, hK, v', B', g5, hb, rfl⟩ := h
      have hsy : synAll l = (synS l.length l.length 0 ⟨l, []⟩).map SynS.ps := by unfold synAll; rw [if_neg (by simp [hn, hov])]
      have g2 : t1.get 2 = some (.ptr i2 0) := (hK.ex 2 rfl).trans (by exact slotq)
      have g4 : t1.get 4 = some (aint l.length) := (hK.ex 4 rfl).trans (by exact slotq)
      clear hK
      have hv1 := hb.isOne
      refine blkO.x (seqO.n ?_)
      by_cases hn0 : l.length = 0
      · have hl0 : l = [] := List.eq_nil_of_length_eq_zero hn0
        subst hl0
        simp only [List.length_nil] at *
        repeat (first | intro id | refine goq ?_)
        refine wo_loop ?_
        repeat (first | intro id | refine goq ?_)
        obtain ⟨i11, rfl⟩ : ∃ i11, i11 = id := ⟨_, rfl⟩
        refine wo_loop ?_
        repeat (first | intro id | refine goq ?_)
        ((first | apply retO_r | apply retO_n); (focus (exact resq)))
        exact ⟨.tup [.agg [aint 0, aint 0, anil], aint 0], vo_zeroC, .inr ⟨[], .agg [aint 0, aint 0, anil], by rw [hsy]; rfl, by simp, rfl, anil, rfl, [], .inl ⟨rfl, rfl, rfl⟩, .nil, by simp [synOps]⟩⟩
      · rcases bufInv hb with ⟨-, -, e, -⟩ | ⟨il, rfl, rfl⟩
        · omega
        repeat (first | intro id | refine goq ?_)
        refine WpO.weak (WpO.mono (rsyn_l3 hF hm1 hst20 hst25 (n := l.length) (i2 := i2) (il := il) (cap := none) (by omega) l.length 0 _ ⟨l, []⟩ anil [] [] [] [] (by omega) rfl (by simp) .nil .nil ?_ ?_ ?_ ?_ ?_) ?_) (by unfold rsynHp; exact subq)
        · exact slotq
        · exact slotq
        · exact slotq
        · exact slotq
        · exact slotq
        intro ex t2 L2 h
        unfold RsynQ at h
        split at h
        · rename_i s1 hs1
          obtain ⟨rfl, hK, a1, cs1, B1, H1, k7, hb1, ho1, hl1, hps, hsub⟩ := h
          have k2 : t2.get 2 = some (.ptr i2 0) := (hK.ex 2 rfl).trans (by exact slotq)
          have k4 : t2.get 4 = some (aint l.length) := (hK.ex 4 rfl).trans (by exact slotq)
          clear hK
          have ha1 := hb1.isOne
          have hsp : (synOps s1.ps).length = s1.ps.length := by simp [synOps]
          refine blkO.x (seqO.n (WpO.weak ?_ hsub))
          unfold rsynHp zeroC
          rcases bufInv hb1 with ⟨rfl, rfl, e0, rfl⟩ | ⟨ic, rfl, rfl⟩
          · have e1 : s1.ps = [] := List.eq_nil_of_length_eq_zero e0
            repeat (first | intro id | refine goq ?_)
            obtain ⟨i11, rfl⟩ : ∃ i11, i11 = id := ⟨_, rfl⟩
            refine wo_loop ?_
            repeat (first | intro id | refine goq ?_)
            ((first | apply retO_r | apply retO_n); (focus (exact resq)))
            exact ⟨.tup [.agg [aint l.length, aint 0, anil], aint 0], vo_tup (vl_cons (vo_agg (vl_cons vo_sc (vl_cons vo_sc (vl_cons vo_sc vl_nil)))) (vl_cons vo_sc vl_nil)), .inr ⟨[], _, by rw [hsy, hs1]; simp [e1], by simp, rfl, anil, rfl, [], .inl ⟨rfl, rfl, rfl⟩, .nil, by simp [synOps]⟩⟩
          · obtain ⟨T, hT, rfl, hTo, rfl⟩ := ho1.trip
            have hTn : T.length = s1.ps.length := by rw [← hsp, hTo]; simp [tpO]
            rw [← hTn] at k7
            repeat (first | intro id | refine goq ?_)
            obtain ⟨i11, rfl⟩ : ∃ i11, i11 = id := ⟨_, rfl⟩
            refine WpO.weak (WpO.mono (rsyn_l4 hst32 hT (by omega) (ic := ic) (i11 := i11) (n := l.length) T.length _ anil [] ((ic, tpC T) :: (i2, [aint 0, aint 0, anil]) :: tpH T) (Nat.le_refl _) (by simpa [tpC] using BufO.nil) ?_ ?_ ?_ .here) ?_) ?_
            · exact slotq
            · exact slotq
            · exact slotq
            · rintro ex t3 L3 ⟨rfl, hK3, a', B', hb3, rfl⟩
              have m2 : t3.get 2 = some (.ptr i2 0) := (hK3.ex 2 rfl).trans (by exact slotq)
              have m11 : t3.get 11 = some (.ptr i11 0) := (hK3.ex 11 rfl).trans (by exact slotq)
              clear hK3
              have ha3 := hb3.isOne
              refine blkO.x (seqO.n ?_)
              repeat (first | intro id | refine goq ?_)
              ((first | apply retO_r | apply retO_n); (focus (exact resq)))
              have okR : TrOk T.reverse := fun p hp => hT p (by simpa using hp)
              have hcirc : CircO (.agg [aint l.length, aint 0, a']) ⟨l.length, 0, (synOps s1.ps).reverse⟩ (B' ++ tpH T.reverse) := by
                refine ⟨a', tpC T.reverse, B', tpH T.reverse, rfl, ?_, ?_, ?_, rfl⟩
                · simp only [List.length_reverse, hsp, ← hTn]; exact hb3
                · have := okR.ops
                  rw [tpO_rev, ← hTo] at this
                  exact this
                · simp only [List.length_reverse, hsp]; omega
              obtain ⟨u, h1, h2⟩ := hcirc.view (M := (i11, [aint l.length, aint 0, a']) :: (B' ++ ((ic, tpC T) :: (i2, [aint l.length, aint 0, a']) :: tpH T))) 59 (fun id c hi => by
                have hm := hi.mem
                refine In.of_mem ?_
                rcases List.mem_append.1 hm with hm | hm
                · simp [hm]
                · have := ((tpH_rev T).mem_iff).1 hm
                  simp [this])
              exact ⟨.tup [u, aint 0], vo_tup (vl_cons h1 (vl_cons vo_sc vl_nil)), .inr ⟨s1.ps, u, by rw [hsy, hs1]; rfl, hps, rfl, h2⟩⟩
            · simp only [List.nil_append, List.append_nil]
              exact subq
        · rename_i hs1
          obtain ⟨rfl, g2, g3, hin⟩ := h
          have hno : synAll l = none := by rw [hsy, hs1]; rfl
          refine blkO.r (seqO.r ?_)
          unfold zeroC at hin
          ((first | apply retO_r | apply retO_n); (focus (exact resq)))
          exact ⟨.tup [.agg zeroC, aint 2], vo_zeroC, .inl ⟨hno, rfl⟩⟩
    · rename_i hov
      obtain ⟨rfl, g2, g3, B', rfl⟩ := h
      have hno : synAll l = none := by unfold synAll; rw [if_pos (.inr hov)]
      refine blkO.r (seqO.r ?_)
      ((first | apply retO_r | apply retO_n); (focus (exact resq)))
      exact ⟨.tup [.agg zeroC, aint 2], vo_zeroC, .inl ⟨hno, rfl⟩⟩
end Go.Proofs.YtmflheoafeenfaaGreat
namespace Go.Am
section
variable (P : Program)

def szOf (t : TypeId) : Option Nat := (P.info? t).map (·.size)
def bytesOf_ (t : TypeId) : Option Nat := (P.info? t).map (·.bytes)
def aggOf (t : TypeId) : Option Bool :=
  match P.underlying t with
  | some (.struct _) => some true
  | some (.array _ _) => some true
  | some _ => some false
  | none => none
def zeroOf (t : TypeId) : Option (List AVal) :=
  match (P.info? t).bind (·.zero) with
  | some z => scAll z.cells.toList
  | none => none

def compArg : Operand → Option Arg
  | .tmp t => some (.t t)
  | .const v => (ofConst v).map .k
  | .func f => some (.k (.fn (.func f) [] []))
  | .global _ => none
def compArgs : List Operand → Option (List Arg)
  | [] => some []
  | x :: r => match compArg x, compArgs r with
    | some a, some asq => some (a :: asq)
    | _, _ => none
def compOpt : Option Operand → Option (Option Arg)
  | none => some none
  | some x => (compArg x).map some
/-- Parts, by where they go. -/
def compParts (place : Nat → Option (Nat × Nat)) : List (Nat × Operand) → Option (List (Nat × Nat × Arg))
  | [] => some []
  | (i, x) :: r => match place i, compArg x, compParts place r with
    | some (o, n), some a, some asq => some ((o, n, a) :: asq)
    | _, _, _ => none
def fieldPlaces : List Field → Option (List (Nat × Nat))
  | [] => some []
  | f :: r => match szOf P f.type, fieldPlaces r with
    | some n, some l => some ((f.offset, n) :: l)
    | _, _ => none

def leavesFs (lv : TypeId → Option (List LK)) : List Field → Nat → Option (List LK)
  | [], _ => some []
  | f :: r, off =>
    if f.name = "_" then none
    else match lv f.type, szOf P f.type with
      | some l, some n => if f.offset = off ∧ n = l.length then match leavesFs lv r (off + l.length) with
          | some k => some (l ++ k)
          | none => none
        else none
      | _, _ => none
/-- The leaves of a type, where '==' asks them one by one. -/
def leavesOf : Nat → TypeId → Option (List LK)
  | 0, _ => none
  | d + 1, t => match P.underlying t with
    | some .bool => some [.bool]
    | some (.int _) => some [.int]
    | some .string => some [.string]
    | some (.struct fs) => if P.stoodInHeld t then none else leavesFs P (leavesOf d) fs.toList 0
    | some (.array n e) => match leavesOf d e, szOf P e, aggOf P e with
      | some r, some z, some g => if z = r.length ∧ (g = false → z = 1) then some (List.flatten (List.replicate n r)) else none
      | _, _, _ => none
    | _ => none

def compOp (o : Oper) : Option AOp :=
  match o.op with
  | .move x => (compArg x).map .mov
  | .assign x => (compArg x).map .mov
  | .pick c a b => match compArg c, compArg a, compArg b with
    | some c, some a, some b => some (.pick c a b)
    | _, _, _ => none
  | .alloc t => (zeroOf P t).map .alloc
  | .box _ x => (compArg x).map .box
  | .build t parts => match zeroOf P t, P.underlying t with
    | some z, some (.struct fs) => match fieldPlaces P fs.toList with
      | some pl => (compParts (fun i => pl[i]?) parts.toList).map (.build z)
      | none => none
    | some z, some (.array _ e) => match szOf P e with
      | some n => (compParts (fun i => some (i * n, n)) parts.toList).map (.build z)
      | none => none
    | _, _ => none
  | .buildSlice t len parts => match P.underlying t with
    | some (.slice e) => match szOf P e, zeroOf P e with
      | some n, some z => if 0 < n ∧ z.length = n ∧ len * n ≤ 16777216 then (compParts (fun i => some (i * n, n)) parts.toList).map (.buildSlice n len (List.flatten (List.replicate len z))) else none
      | _, _ => none
    | _ => none
  | .load t x => match aggOf P t, szOf P t, compArg x with
    | some a, some n, some x => some (.load a (if a then n else 1) x)
    | _, _, _ => none
  | .store t a v => match szOf P t, compArg a, compArg v with
    | some n, some a, some v => some (.store n a v)
    | _, _, _ => none
  | .nilCheck x => (compArg x).map .nilCheck
  | .binOp op t x y _ => match compArg x, compArg y with
    | some x, some y => match P.underlying t with
      | some (.int _) => some (.bin op x y)
      | some (.float _) => some (.bin op x y)
      | some (.complex _) => some (.bin op x y)
      | some .string => some (.bin op x y)
      | some .bool => match op with
        | .eql => some (.eqBool false x y)
        | .neq => some (.eqBool true x y)
        | _ => none
      | some (.pointer _) => match op with
        | .eql => some (.eqNil .ptr false x y)
        | .neq => some (.eqNil .ptr true x y)
        | _ => none
      | some (.slice _) => match op with
        | .eql => some (.eqNil .slice false x y)
        | .neq => some (.eqNil .slice true x y)
        | _ => none
      | some (.func _ _ _) => match op with
        | .eql => some (.eqNil .func false x y)
        | .neq => some (.eqNil .func true x y)
        | _ => none
      | some (.map _ _) => match op with
        | .eql => some (.eqNil .map false x y)
        | .neq => some (.eqNil .map true x y)
        | _ => none
      | some (.struct _) => if P.eqGuardType P.depth t then none else match op, leavesOf P 20 t with
        | .eql, some l => some (.eqAgg false l x y)
        | .neq, some l => some (.eqAgg true l x y)
        | _, _ => none
      | some (.array _ _) => if P.eqGuardType P.depth t then none else match op, leavesOf P 20 t with
        | .eql, some l => some (.eqAgg false l x y)
        | .neq, some l => some (.eqAgg true l x y)
        | _, _ => none
      | _ => none
    | _, _ => none
  | .unOp op _ x => (compArg x).map (.un op)
  | .convert s d x => match compArg x, P.underlying s, P.underlying d with
    | some x, some (.int _), some (.int k) => some (.conv (.int k) x)
    | some x, some .string, some .string => some (.conv .same x)
    | some x, some (.int _), some (.float k) => some (.conv (.float k) x)
    | some x, some (.float _), some (.float k) => some (.conv (.float k) x)
    | _, _, _ => none
  | .makeFunc f a b => match compArgs a.toList, compArgs b.toList with
    | some a, some b => some (.makeFunc f a b)
    | _, _ => none
  | .makeSlice t l c => match P.underlying t with
    | some (.slice e) => match szOf P e, bytesOf_ P e, zeroOf P e, compArg l, compArg c with
      | some n, some b, some z, some l, some c => if 0 < n ∧ z.length = n then some (.makeSlice n b z l c) else none
      | _, _, _, _, _ => none
    | _ => none
  | .slice t x lo hi mx => match P.underlying t, compArg x, compOpt lo, compOpt hi, compOpt mx with
    | some (.slice e), some x, some lo, some hi, some mx => match szOf P e with
      | some n => if 0 < n then (match lo, hi, mx with
        | some lo, some hi, none => some (.sliceB n x lo hi)
        | _, _, _ => some (.slice n x lo hi mx)) else none
      | none => none
    | some .string, some x, some lo, some hi, some none => some (.sliceStr x lo hi)
    | _, _, _, _, _ => none
  | .fieldAddr t x i => match P.underlying t, compArg x with
    | some (.struct fs), some x => match fs[i]? with
      | some f => match szOf P f.type with
        | some n => if 0 < n then some (.fieldAddr f.offset x) else none
        | none => none
      | none => none
    | _, _ => none
  | .field t x i => match P.underlying t, compArg x with
    | some (.struct fs), some x => match fs[i]? with
      | some f => match aggOf P f.type, szOf P f.type with
        | some a, some n => some (.field a f.offset (if a then n else 1) x)
        | _, _ => none
      | none => none
    | _, _ => none
  | .indexAddr t x i => match compArg x, compArg i with
    | some x, some i => match P.underlying t with
      | some (.array n e) => match szOf P e with
        | some z => if 0 < z then some (.indexAddr (some n) z x i) else none
        | none => none
      | some (.slice e) => match szOf P e with
        | some z => if 0 < z then some (.indexAddr none z x i) else none
        | none => none
      | _ => none
    | _, _ => none
  | .index t x i => match compArg x, compArg i with
    | some x, some i => match P.underlying t with
      | some (.array n e) => match aggOf P e, szOf P e with
        | some a, some z => if a = false → z = 1 then some (.index a n z x i) else none
        | _, _ => none
      | some .string => some (.indexStr x i)
      | _ => none
    | _, _ => none
  | .extract x i => (compArg x).map fun x => .extract x i
  | .call c => match c.callee with
    | .value f => match compArg f, compArgs c.args.toList with
      | some f, some asq => some (.call f asq)
      | _, _ => none
    | .invoke _ _ => none
    | .builtin b => match b, compArgs c.args.toList, c.argTypes.toList with
      | .len, some [x], [t] => match P.underlying t with
        | some .string => some (.lenStr x)
        | some (.slice _) => some (.len x)
        | some (.array n _) => some (.lenC n)
        | _ => none
      | .cap, some [x], [t] => match P.underlying t with
        | some (.slice _) => some (.cap x)
        | _ => none
      | .append, some [a, x], [t, u] => match P.underlying t, P.underlying u with
        | some (.slice e), some (.slice _) => match szOf P e, bytesOf_ P e, zeroOf P e with
          | some n, some b, some z => if 0 < n ∧ 0 < b ∧ z.length = n then some (.append n b a x) else none
          | _, _, _ => none
        | some (.slice e), some (.int _) => match szOf P e, bytesOf_ P e, zeroOf P e with
          | some n, some b, some z => if 0 < n ∧ 0 < b ∧ z.length = n then some (.appendZeros n b z a x) else none
          | _, _, _ => none
        | _, _ => none
      | .copy, some [a, x], t :: _ => match P.underlying t with
        | some (.slice e) => match szOf P e with
          | some n => if 0 < n then some (.copy n a x) else none
          | none => none
        | _ => none
      | .clear, some [x], [t] => match P.underlying t with
        | some (.slice e) => match szOf P e, zeroOf P e with
          | some n, some z => if 0 < n ∧ z.length = n then some (.clear n z x) else none
          | _, _ => none
        | _ => none
      | .real, some [x], _ => some (.real false x)
      | .imag, some [x], _ => some (.real true x)
      | .complex, some [x, y], _ => some (.cplx x y)
      | .max, some xs, _ => some (.minmax true xs)
      | .min, some xs, _ => some (.minmax false xs)
      | _, _, _ => none
  | .makeInterface _ _ => some (.lenStr (.k (.sc (.bool false))))
  | .panic _ => some (.lenStr (.k (.sc (.bool false))))
  | _ => none

def dstOk (n : Nat) : Option Nat → Bool
  | some d => decide (d < n)
  | none => true
def compAO (ntmps : Nat) (ops : Array Oper) (before : Array Nat) (i : Nat) (o : Oper) : Option AO :=
  match compOp P o with
  | none => none
  | some op =>
    if dstOk ntmps o.dst = true then
      some { dst := o.dst, op := op, guard := o.guard.map fun g => ((ops[g.1]?).bind (·.dst), g.2), after := before.getD i 0 }
    else none
def compOs (ntmps : Nat) (ops : Array Oper) (before : Array Nat) : Nat → List Oper → Option (List AO)
  | _, [] => some []
  | i, o :: r => match compAO P ntmps ops before i o, compOs ntmps ops before (i + 1) r with
    | some a, some asq => some (a :: asq)
    | _, _ => none

/-- Each bit of what is told to come ahead is an edge's, or comes through one. -/
def okAfter (ops : Array Oper) (bf : Array Nat) : Bool :=
  ops.toList.zipIdx.all fun x => (List.range ops.size).all fun k => !(bf.getD x.2 0).testBit k || x.1.after.any fun e => Region.binds .any e && (e.on == k || (bf.getD e.on 0).testBit k)
def okEdges (ops : Array Oper) : Bool := ops.toList.zipIdx.all fun x => x.1.after.all fun e => !Region.binds .any e || decide (e.on < x.2)

def comp (ntmps : Nat) : Code → Option AC
  | .skip => some .skip
  | .region _ ops d =>
    match d with
    | true => if okEdges ops ∧ okAfter ops (Region.before ops) then (compOs P ntmps ops (Region.before ops) 0 ops.toList).map fun l => .reg l true else none
    | false => (compOs P ntmps ops #[] 0 ops.toList).map fun l => .reg l false
  | .seq a b => match comp ntmps a, comp ntmps b with
    | some a, some b => some (.seq a b)
    | _, _ => none
  | .cond c a b => match compArg c, comp ntmps a, comp ntmps b with
    | some c, some a, some b => some (.cond c a b)
    | _, _, _ => none
  | .block id c => (comp ntmps c).map (.blk id)
  | .loop c => (comp ntmps c).map .loop
  | .exit id => some (.exit id)
  | .scope c => (comp ntmps c).map .scope
  | .label _ => some .skip
  | .ret => some .ret
  | _ => none

def compRes : List ResultVar → Option (List AR)
  | [] => some []
  | .tmp t :: r => (compRes r).map (.tmp t :: ·)
  | .cell a t :: r => match aggOf P t, szOf P t, compRes r with
    | some g, some n, some l => some (.cell g (if g then n else 1) a :: l)
    | _, _, _ => none

def compFn (f : Func) : Option AFn :=
  match f.body with
  | none => none
  | some c => match comp P f.ntmps c, compRes P f.results.toList with
    | some c, some r => some { code := c, ntmps := f.ntmps, results := r }
    | _, _ => none
end
end Go.Am
