/- Each place's neighbours, rising. -/
import Derived.Test.YtfaphhcloanhnaaRtC12
import Derived.Test.YtfaphhcloanhnaaRtKS
set_option linter.unusedSimpArgs false
set_option linter.unusedVariables false
namespace Go.Proofs.Ytfaphhcloanhnaa
open Go.Am Go.Ded Go.Dist
set_option maxRecDepth 4000
set_option maxHeartbeats 4000000
variable {E : Env} {L : Hp}
theorem sort_ok (hm : E.mode f_slices_Sort_int_int = .known) (hk : E.known f_slices_Sort_int_int = knSort) {id : Nat} {l : List Int} {cap : Option Nat} {L' : Hp} (hlt : l.length < 4611686018427387904) (hu : Upd id (l.map aint) ((sortI l).map aint) L L') :
    CallO E f_slices_Sort_int_int [.sl id 0 l.length 1 cap] L fun v L1 => v = .tup [] ∧ L1 = L' := by
  refine callO_known hm fun m ho => ?_
  have hc := ho.get hu.in_
  by_cases h0 : l.length = 0
  · have hnil : l = [] := List.length_eq_zero_iff.1 h0
    subst hnil
    refine ⟨.tup [], m, L', ?_, ?_, rfl, rfl⟩
    · rw [hk]
      simp only [knSort, if_true, hc]
      simp [seg, intsOf]
    · have := ho.upd hu
      have e : ∀ {id : Nat} {x : List AVal} {L L' : Hp}, Upd id x x L L' → L' = L := by
        intro id x L L' h
        induction h with
        | here => rfl
        | next h ih => rw [ih]
      rw [e hu]
      exact ho
  · refine ⟨.tup [], m.put id (some (.cells (putSeg (l.map aint) 0 ((sortI l).map aint)))), L', ?_, ?_, rfl, rfl⟩
    · rw [hk]
      simp only [knSort, if_true, hc, seg_full (show (l.map aint).length = l.length by simp), intsOf_map, if_neg h0, if_pos hlt]
    · have e : putSeg (l.map aint) 0 ((sortI l).map aint) = (sortI l).map aint := by
        unfold putSeg
        simp [sortI_length]
      rw [e]
      exact ho.upd hu
theorem sort_nil (hm : E.mode f_slices_Sort_int_int = .known) (hk : E.known f_slices_Sort_int_int = knSort) : CallO E f_slices_Sort_int_int [anil] L fun v L1 => v = .tup [] ∧ L1 = L :=
  callO_known hm fun m ho => ⟨.tup [], m, L, by rw [hk]; rfl, ho, rfl, rfl⟩

theorem BufO.inv {esz n : Nat} {v : AVal} {cs : List AVal} {B : Hp} (h : BufO esz v cs n B) : (v = anil ∧ cs = [] ∧ n = 0 ∧ B = []) ∨ ∃ id, v = .sl id 0 n esz none ∧ B = [(id, cs)] := by
  cases h with
  | nil => exact .inl ⟨rfl, rfl, rfl, rfl⟩
  | box hl h1 => exact .inr ⟨_, rfl, rfl⟩
/-- Place i's neighbours, done. -/
def FinN (ls : Nat → List Nat) (i : Nat) (v : AVal) (B : Hp) : Prop := (v = anil ∧ ls i = [] ∧ B = []) ∨ ∃ id c, B = [(id, c)] ∧ DedO id (sortI (inat (ls i))) v c
def MixN (ls : Nat → List Nat) (k i : Nat) (v : AVal) (B : Hp) : Prop := if i < k then FinN ls i v B else RowN ls i v B
theorem near_l1 {N io : Nat} {ls : Nat → List Nat} (hF : E.fns = fnsT) (hms : E.mode f_slices_Sort_int_int = .known) (hk : E.known f_slices_Sort_int_int = knSort) (hmc : E.mode f_slices_Compact_int_int = .open_) (hN : N ≤ 64) (hlen : ∀ i, (ls i).length ≤ 4000000) :
    ∀ (d k : Nat) (t : Tr AVal) (vs : List AVal) (H : Hp), d + k = N → t.get 3 = some (.sl io 0 N 1 (some N)) → t.get 45 = some (.sl io 0 N 1 (some N)) → t.get 46 = some (aint N) → t.get 47 = some (aint k) → vs.length = N → AllP (MixN ls k) 0 vs H →
    WpO E (.loop c_route_near_l1) t ((io, vs) :: (H ++ L)) (fun ex t' L' => ex = .exit 2 ∧ t'.get 3 = some (.sl io 0 N 1 (some N)) ∧ ∃ vs' H', vs'.length = N ∧ AllP (MixN ls N) 0 vs' H' ∧ L' = (io, vs') :: (H' ++ L)) := by
  intro d
  induction d with
  | zero =>
    intro k t vs H hk' h3 h45 h46 h47 hvs hall
    obtain rfl : k = N := by omega
    refine wo_loop ?_
    repeat (first | intro id | refine goq ?_)
    exact ⟨rfl, by exact slotq, vs, H, hvs, hall, rfl⟩
  | succ d ih =>
    intro k t vs H hk' h3 h45 h46 h47 hvs hall
    obtain ⟨v, B, H1, H2, hv, rfl, hP, hset⟩ := hall.split (i := k) (by omega)
    rw [Nat.zero_add] at hP hset
    have hrow : RowN ls k v B := by unfold MixN at hP; rwa [if_neg (by omega)] at hP
    have hother : ∀ j v B, 0 ≤ j → j ≠ k → MixN ls k j v B → MixN ls (k + 1) j v B := by
      intro j v B _ hne h
      unfold MixN at h ⊢
      by_cases e : j < k
      · rw [if_pos e] at h; rw [if_pos (by omega)]; exact h
      · rw [if_neg e] at h; rw [if_neg (by omega)]; exact h
    have hl := hlen k
    have hil := inat_length (ls k)
    refine wo_loop ?_
    repeat (first | intro id | refine goq ?_)
    refine gok ?_
    rcases BufO.inv hrow with ⟨rfl, hn, hn0, rfl⟩ | ⟨ib, rfl, rfl⟩
    · have hlk : ls k = [] := List.length_eq_zero_iff.1 hn0
      refine (sort_nil hms hk).mono ?_
      rintro u L' ⟨rfl, rfl⟩
      repeat (first | intro id | refine goq ?_)
      refine gok ?_
      refine (compact_nil hF hmc).mono ?_
      rintro u L' ⟨rfl, rfl⟩
      have hvl : (vs.set k anil).length = N := by rw [List.length_set, hvs]
      repeat (first | intro id | refine goq ?_)
      refine WpO.weak (ih (k + 1) _ _ _ ?_ ?_ ?_ ?_ ?_ hvl (hset (MixN ls (k + 1)) anil [] ?_ hother)) ?_
      · omega
      · exact slotq
      · exact slotq
      · exact slotq
      · exact slotq
      · unfold MixN; rw [if_pos (by omega)]; exact .inl ⟨rfl, hlk, rfl⟩
      · rw [List.append_assoc, List.append_assoc]
        exact subq
    · rw [← hil]
      refine (sort_ok (l := inat (ls k)) hms hk (by omega) (Upd.next (by rw [List.append_assoc]; exact Upd.app (Upd.here)))).mono ?_
      rintro u L' ⟨rfl, rfl⟩
      repeat (first | intro id | refine goq ?_)
      refine gok ?_
      rw [show (inat (ls k)).length = (sortI (inat (ls k))).length from (sortI_length _).symm]
      refine CallO.mono (CallO.weak (compact_ok (L := (io, vs) :: (H1 ++ (H2 ++ L))) hF hmc (by rw [sortI_length]; omega)) ?_) ?_
      · refine Sub.cons (Rem.next (Rem.app Rem.one)) ?_
        exact Sub.cons Rem.one (Sub.refl _)
      rintro u L' ⟨c, hd, rfl⟩
      have hu1 : u.one = true := by obtain ⟨cap, e⟩ := hd.val; rw [e]; rfl
      have hvl : (vs.set k u).length = N := by rw [List.length_set, hvs]
      repeat (first | intro id | refine goq ?_)
      refine WpO.weak (ih (k + 1) _ _ _ ?_ ?_ ?_ ?_ ?_ hvl (hset (MixN ls (k + 1)) u [(ib, c)] ?_ hother)) ?_
      · omega
      · exact slotq
      · exact slotq
      · exact slotq
      · exact slotq
      · unfold MixN; rw [if_pos (by omega)]; exact .inr ⟨ib, c, rfl, hd⟩
      · rw [List.append_assoc, List.append_assoc]
        exact subq

/-- The neighbours of a place, rising. -/
def nbl (N : Nat) (ps : List (Nat × Nat)) (i : Nat) : List Nat := (List.range N).filter fun b => ps.contains (i, b) || ps.contains (b, i)
theorem nbl_mem {N : Nat} {ps : List (Nat × Nat)} {i b : Nat} : b ∈ nbl N ps i ↔ b < N ∧ Adj ps i b := by
  unfold nbl Adj
  simp [List.mem_filter]
theorem nbl_rise (N : Nat) (ps : List (Nat × Nat)) (i : Nat) : (inat (nbl N ps i)).Pairwise (· < ·) := by
  unfold inat nbl
  rw [List.pairwise_map]
  refine (List.Pairwise.filter _ List.pairwise_lt_range).imp fun h => by omega
theorem nbl_len (N : Nat) (ps : List (Nat × Nat)) (i : Nat) : (nbl N ps i).length ≤ N := by
  have := List.length_filter_le (fun b => ps.contains (i, b) || ps.contains (b, i)) (List.range N)
  simpa [nbl] using this
theorem dd_nbl {N : Nat} {ps : List (Nat × Nat)} (hps : ∀ k, k < ps.length → (ps.getD k (0, 0)).1 < N ∧ (ps.getD k (0, 0)).2 < N) (i : Nat) : dd (sortI (inat (adjL ps i))) = inat (nbl N ps i) := by
  refine rise_eq (dd_rise _ (sortI_sorted _)) (nbl_rise N ps i) fun x => ?_
  rw [dd_mem, (sortI_perm _).mem_iff]
  have hm := fun b => adjL_mem ps ps.length i b (Nat.le_refl _)
  rw [List.take_length] at hm
  have hlt : ∀ b, Adj ps i b → b < N := by
    intro b hb
    rcases hb with hb | hb
    · obtain ⟨k, hk, e⟩ := List.getElem_of_mem hb
      have := (hps k hk).2
      simp [hk, e] at this
      exact this
    · obtain ⟨k, hk, e⟩ := List.getElem_of_mem hb
      have := (hps k hk).1
      simp [hk, e] at this
      exact this
  unfold inat
  simp only [List.mem_map]
  constructor
  · rintro ⟨b, h1, rfl⟩
    have h2 := (hm b).1 h1
    exact ⟨b, nbl_mem.2 ⟨hlt b h2, h2⟩, rfl⟩
  · rintro ⟨b, h1, rfl⟩
    exact ⟨b, (hm b).2 (nbl_mem.1 h1).2, rfl⟩
def nbs (N : Nat) (ps : List (Nat × Nat)) : List (List Nat) := (List.range N).map (nbl N ps)
theorem nbs_getD {N : Nat} {ps : List (Nat × Nat)} {i : Nat} (h : i < N) : (nbs N ps).getD i [] = nbl N ps i := by simp [nbs, h]
theorem nbs_length (N : Nat) (ps : List (Nat × Nat)) : (nbs N ps).length = N := by simp [nbs]

theorem AllP.view {P : Nat → AVal → Hp → Prop} {k n : Nat} {vs : List AVal} {H : Hp} {rows : Nat → List Int} (h : AllP P k vs H) (hH : ∀ id c, In id c H → In id c L) (hP : ∀ j v B, k ≤ j → j < k + vs.length → P j v B → (∀ id c, In id c B → In id c L) → ∃ u, ViewO L n v u ∧ SlI u (rows j)) :
    ∃ us, ViewL L n vs us ∧ us.length = vs.length ∧ ∀ (j : Nat) u, us[j]? = some u → SlI u (rows (k + j)) := by
  induction h with
  | nil => exact ⟨[], vl_nil, rfl, fun j u h => by simp at h⟩
  | @cons k v vs B H h hr ih =>
    obtain ⟨u, h1, h2⟩ := hP k v B (Nat.le_refl _) (by simp) h fun id c hi => hH id c hi.appl
    obtain ⟨us, h3, h4, h5⟩ := ih (fun id c hi => hH id c hi.app) fun j v B hj hj2 hp hB => hP j v B (by omega) (by simp only [List.length_cons]; omega) hp hB
    refine ⟨u :: us, vl_cons h1 h3, by simp [h4], fun j x hx => ?_⟩
    cases j with
    | zero => simp at hx; subst hx; exact h2
    | succ j => rw [show k + (j + 1) = k + 1 + j by omega]; exact h5 j x (by simpa using hx)
theorem fin_view {N k : Nat} {ps : List (Nat × Nat)} (hps : ∀ k, k < ps.length → (ps.getD k (0, 0)).1 < N ∧ (ps.getD k (0, 0)).2 < N) {j : Nat} {v : AVal} {B : Hp} (h : FinN (adjL ps) j v B) (hB : ∀ id c, In id c B → In id c L) : ∃ u, ViewO L (k + 2) v u ∧ SlI u (inat (nbl N ps j)) := by
  rw [← dd_nbl hps j]
  rcases h with ⟨rfl, h1, rfl⟩ | ⟨id, c, rfl, ⟨cap, rfl⟩, h2⟩
  · rw [h1]
    exact ⟨anil, ⟨fun m hm => rfl⟩, .inl ⟨rfl, rfl, rfl⟩⟩
  · exact ⟨_, vo_sl (hB _ _ .here) (by rw [Nat.mul_one]; exact h2) (vl_sc (sc_ints _)), .inr ⟨cap, rfl⟩⟩
theorem near_ok (hF : E.fns = fnsT) (hm : E.mode f_route_near = .iso true) (hms : E.mode f_slices_Sort_int_int = .known) (hk : E.known f_slices_Sort_int_int = knSort) (hmc : E.mode f_slices_Compact_int_int = .open_) {N : Nat} {va : AVal} {ps : List (Nat × Nat)} (hN : N ≤ 64) (hps : ∀ k, k < ps.length → (ps.getD k (0, 0)).1 < N ∧ (ps.getD k (0, 0)).2 < N) (hva : SlN va ps) (hlt : ps.length ≤ 1000000) :
    CallO E f_route_near [.agg [aint N, va]] L fun v L' => SlS v ((nbs N ps).map inat) ∧ L' = L := by
  refine callO_iso1 hm (fns_of hF n_route_near) ?_ ?_
  · simp only [List.all_cons, List.all_nil, AVal.bare, bareAll, bare_Row hva (bare_pcells _)]; rfl
  refine bodyO_of (Nat.le_of_ble_eq_true rfl) ?_; generalize ht : argSlots _ 0 .nil = t; have h0 : t.get 0 = some _ := (by rw [← ht]; rfl); clear ht
  have hlr : (pcells (ipairs ps)).length = 2 * ps.length := by rw [pcells_length, ipairs_length]
  repeat (first | intro id | refine goq ?_)
  rename_i i1
  refine WpO.mono (near_l0 (L := [(i1, [aint N, va])]) (i1 := i1) hN hps hva hlt ps.length 0 _ (List.replicate N anil) [] (by omega) ?_ ?_ ?_ ?_ (by simp) ?_) ?_
  · exact slotq
  · exact slotq
  · exact slotq
  · exact slotq
  · have : ∀ n k, AllP (RowN (adjL (ps.take 0))) k (List.replicate n anil) [] := by
      intro n
      induction n with
      | zero => intro k; exact .nil
      | succ n ih => intro k; rw [List.replicate_succ]; exact .cons (B := []) .nil (ih (k + 1))
    exact this N 0
  rintro ex t1 L' ⟨rfl, hK, vs, H, hvs, hall, rfl⟩
  have k3 : t1.get 3 = some (.sl id 0 N 1 (some N)) := (hK.ex 3 rfl).trans (by exact slotq)
  repeat (first | intro id | refine goq ?_)
  have hal := fun i => by have := adjL_len ps ps.length i (Nat.le_refl _); rwa [List.take_length] at this
  refine WpO.mono (near_l1 (L := [(i1, [aint N, va])]) (ls := adjL ps) hF hms hk hmc hN (fun i => by have := hal i; omega) N 0 _ vs H (by omega) ?_ ?_ ?_ ?_ hvs ?_) ?_
  · exact slotq
  · exact slotq
  · exact slotq
  · exact slotq
  · refine hall.mono fun j v B _ h => ?_
    unfold MixN
    rw [if_neg (by omega)]
    exact h
  rintro ex t2 L' ⟨rfl, g3, vs', H', hvs', hall', rfl⟩
  repeat (first | intro id | refine goq ?_)
  ((first | apply retO_r | apply retO_n); (focus (exact resq)))
  obtain ⟨us, e1, e2, e3⟩ := hall'.view (L := (id, vs') :: (H' ++ [(i1, [aint N, va])])) (n := 63) (rows := fun j => inat (nbl N ps j)) (fun _ _ h => .next h.appl) fun j v B _ hj hp hB => by
    unfold MixN at hp
    rw [if_pos (by omega)] at hp
    exact fin_view hps hp hB
  refine ⟨.rs us N (some N), vo_sl .here (by rw [Nat.mul_one]; exact seg_full hvs') e1, us, .inr ⟨some N, by rw [List.length_map, nbs_length]⟩, by rw [e2, hvs', List.length_map, nbs_length], fun j u l hu hl => ?_⟩
  have := e3 j u hu
  rw [Nat.zero_add] at this
  have hj : j < N := by have := (List.getElem?_eq_some_iff.1 hu).1; omega
  have e : l = inat (nbl N ps j) := by
    simp only [nbs, List.map_map, List.getElem?_map, List.getElem?_range hj, Option.map_some, Function.comp, Option.some.injEq] at hl
    exact hl.symm
  rw [e]
  exact this
end Go.Proofs.Ytfaphhcloanhnaa
