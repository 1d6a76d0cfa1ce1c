/- Parts of the proof, joined by program: RtKS, RtC13, RtC14, RtDist2. -/
import Derived.Shelf.SortM.Plain
import Derived.Shelf.SortM.SortNone
import Derived.Test.YtfaphhcloanhnaaChecked
import Derived.Test.YtfaphhcloanhnaaPa21
import Derived.Test.YtfaphhcloanhnaaPa6
import Derived.Test.YtfaphhcloanhnaaPa12
import Derived.Test.YtfaphhcloanhnaaPa11
import Derived.Test.YtfaphhcloanhnaaPa9
import Derived.Test.YtfaphhcloanhnaaPa10
set_option linter.unusedSimpArgs false
set_option linter.unusedVariables false
namespace Go.Proofs.Ytfaphhcloanhnaa
open Go.Shelf Go.Proofs
/-- Where the library's numbers lie here. -/
def sortA_ren : Go.Shelf.Ren := ⟨fun | 5 => 62 | 8 => 71 | 7 => 74 | 19 => 85 | 20 => 86 | 10 => 87 | 11 => 88 | 12 => 89 | 13 => 90 | 14 => 91 | 15 => 92 | 16 => 93 | 17 => 94 | 18 => 95 | 30 => 104 | 31 => 100 | 32 => 101 | 33 => 105 | 34 => 106 | 35 => 107 | 40 => 112 | n => n, fun | 23 => 44 | 25 => 3 | 3 => 3 | 32 => 112 | 22 => 44 | 0 => 0 | 44 => 125 | 46 => 49 | 4 => 4 | 36 => 118 | 35 => 117 | 41 => 122 | 5 => 5 | 9 => 9 | 53 => 135 | 57 => 139 | 63 => 147 | 64 => 107 | n => n, fun | n => n⟩
set_option maxRecDepth 100000 in
theorem sortA : Go.Proofs.SlLaysM.n5 Try.prog sortA_ren := {
  mixed := by kernel_rfl
  f5 := ⟨Try.f62.name, by decide, Try.func62.trans (congrArg some (by kernel_rfl))⟩
  f7 := ⟨Try.f74.name, by decide, Try.func74.trans (congrArg some (by kernel_rfl))⟩
  f8 := Try.func71.trans (congrArg some (by kernel_rfl))
  f10 := ⟨Try.f87.name, by decide, Try.func87.trans (congrArg some (by kernel_rfl))⟩
  f11 := ⟨Try.f88.name, by decide, Try.func88.trans (congrArg some (by kernel_rfl))⟩
  f12 := ⟨Try.f89.name, by decide, Try.func89.trans (congrArg some (by kernel_rfl))⟩
  f13 := ⟨Try.f90.name, by decide, Try.func90.trans (congrArg some (by kernel_rfl))⟩
  f14 := ⟨Try.f91.name, by decide, Try.func91.trans (congrArg some (by kernel_rfl))⟩
  f15 := ⟨Try.f92.name, by decide, Try.func92.trans (congrArg some (by kernel_rfl))⟩
  f16 := ⟨Try.f93.name, by decide, Try.func93.trans (congrArg some (by kernel_rfl))⟩
  f17 := ⟨Try.f94.name, by decide, Try.func94.trans (congrArg some (by kernel_rfl))⟩
  f18 := ⟨Try.f95.name, by decide, Try.func95.trans (congrArg some (by kernel_rfl))⟩
  f19 := Try.func85.trans (congrArg some (by kernel_rfl))
  f20 := Try.func86.trans (congrArg some (by kernel_rfl))
  f30 := ⟨Try.f104.name, by decide, Try.func104.trans (congrArg some (by kernel_rfl))⟩
  f31 := Try.func100.trans (congrArg some (by kernel_rfl))
  f32 := Try.func101.trans (congrArg some (by kernel_rfl))
  f33 := ⟨Try.f105.name, by decide, Try.func105.trans (congrArg some (by kernel_rfl))⟩
  f34 := ⟨Try.f106.name, by decide, Try.func106.trans (congrArg some (by kernel_rfl))⟩
  f35 := ⟨Try.f107.name, by decide, Try.func107.trans (congrArg some (by kernel_rfl))⟩
  f40 := ⟨Try.f112.name, by decide, Try.func112.trans (congrArg some (by kernel_rfl))⟩
  t0 := Try.underlying0
  a0 := Try.isAgg0
  z0 := Try.sizeOf0
  v0 := Try.zeroValue0
  t3 := Try.underlying3
  a3 := Try.isAgg3
  z3 := Try.sizeOf3
  v3 := Try.zeroValue3
  t4 := Try.underlying4
  a4 := Try.isAgg4
  z4 := Try.sizeOf4
  v4 := Try.zeroValue4
  t5 := Try.underlying5
  a5 := Try.isAgg5
  z5 := Try.sizeOf5
  v5 := Try.zeroValue5
  t9 := Try.underlying9
  a9 := Try.isAgg9
  z9 := Try.sizeOf9
  v9 := Try.zeroValue9
  t22 := Try.underlying44
  a22 := Try.isAgg44
  z22 := Try.sizeOf44
  v22 := Try.zeroValue44
  t23 := Try.underlying44
  a23 := Try.isAgg44
  z23 := Try.sizeOf44
  v23 := Try.zeroValue44
  t25 := Try.underlying3
  a25 := Try.isAgg3
  z25 := Try.sizeOf3
  v25 := Try.zeroValue3
  t32 := Try.underlying112
  a32 := Try.isAgg112
  z32 := Try.sizeOf112
  v32 := Try.zeroValue112
  t35 := Try.underlying117
  a35 := Try.isAgg117
  z35 := Try.sizeOf117
  v35 := Try.zeroValue117
  t36 := Try.underlying118
  a36 := Try.isAgg118
  z36 := Try.sizeOf118
  v36 := Try.zeroValue118
  t41 := Try.underlying122
  a41 := Try.isAgg122
  z41 := Try.sizeOf122
  v41 := Try.zeroValue122
  t44 := Try.underlying125
  a44 := Try.isAgg125
  z44 := Try.sizeOf125
  v44 := Try.zeroValue125
  t46 := Try.underlying49
  a46 := Try.isAgg49
  z46 := Try.sizeOf49
  v46 := Try.zeroValue49
  t53 := Try.underlying135
  a53 := Try.isAgg135
  z53 := Try.sizeOf135
  v53 := Try.zeroValue135
  t57 := Try.underlying139
  a57 := Try.isAgg139
  z57 := Try.sizeOf139
  v57 := Try.zeroValue139
  t63 := Try.underlying147
  a63 := Try.isAgg147
  z63 := Try.sizeOf147
  v63 := Try.zeroValue147
  t64 := Try.underlying107
  a64 := Try.isAgg107
  z64 := Try.sizeOf107
  v64 := Try.zeroValue107 }
end Go.Proofs.Ytfaphhcloanhnaa
namespace Go.Am
/-! Numbers, sorted -/
def insI (x : Int) : List Int → List Int
  | [] => [x]
  | a :: r => if x ≤ a then x :: a :: r else a :: insI x r
def sortI : List Int → List Int
  | [] => []
  | a :: r => insI a (sortI r)
theorem insI_perm (x : Int) : ∀ l, (insI x l).Perm (x :: l)
  | [] => List.Perm.refl _
  | a :: r => by
    unfold insI
    split
    · exact List.Perm.refl _
    · exact ((insI_perm x r).cons a).trans (List.Perm.swap x a r)
theorem sortI_perm : ∀ l, (sortI l).Perm l
  | [] => List.Perm.refl _
  | a :: r => (insI_perm a (sortI r)).trans ((sortI_perm r).cons a)
theorem insI_sorted (x : Int) : ∀ l : List Int, l.Pairwise (· ≤ ·) → (insI x l).Pairwise (· ≤ ·)
  | [], _ => by simp [insI]
  | a :: r, h => by
    have h1 := List.pairwise_cons.1 h
    unfold insI
    split
    · rename_i hle
      refine List.pairwise_cons.2 ⟨fun y hy => ?_, h⟩
      rcases List.mem_cons.1 hy with rfl | hy
      · exact hle
      · exact Int.le_trans hle (h1.1 y hy)
    · rename_i hle
      refine List.pairwise_cons.2 ⟨fun y hy => ?_, insI_sorted x r h1.2⟩
      rcases List.mem_cons.1 ((insI_perm x r).mem_iff.1 hy) with rfl | hy
      · omega
      · exact h1.1 y hy
theorem sortI_sorted : ∀ l : List Int, (sortI l).Pairwise (· ≤ ·)
  | [] => List.Pairwise.nil
  | a :: r => insI_sorted a _ (sortI_sorted r)
theorem sorted_perm_eq : ∀ {a b : List Int}, a.Pairwise (· ≤ ·) → b.Pairwise (· ≤ ·) → a.Perm b → a = b
  | [], b, _, _, h => (h.symm.eq_nil).symm
  | x :: a, [], _, _, h => absurd h.eq_nil (by simp)
  | x :: a, y :: b, ha, hb, h => by
    have ha' := List.pairwise_cons.1 ha
    have hb' := List.pairwise_cons.1 hb
    have e : x = y := by
      have h1 : x ∈ y :: b := h.mem_iff.1 (by simp)
      have h2 : y ∈ x :: a := h.mem_iff.2 (by simp)
      rcases List.mem_cons.1 h1 with e | h1
      · exact e
      · rcases List.mem_cons.1 h2 with e | h2
        · exact e.symm
        · have := ha'.1 y h2
          have := hb'.1 x h1
          omega
    subst e
    rw [sorted_perm_eq ha'.2 hb'.2 (List.perm_cons x |>.1 h)]
theorem mergeSort_eq (l : List Int) : (l.mergeSort fun x y => decide (x ≤ y)) = sortI l := by
  refine sorted_perm_eq ?_ (sortI_sorted l) ((List.mergeSort_perm l _).trans (sortI_perm l).symm)
  have := List.pairwise_mergeSort (le := fun x y : Int => decide (x ≤ y)) (fun a b c h1 h2 => by simp only [decide_eq_true_eq] at *; omega) (fun a b => by simp only [Bool.or_eq_true, decide_eq_true_eq]; omega) l
  exact this.imp fun h => by simpa using h
theorem sortI_length (l : List Int) : (sortI l).length = l.length := (sortI_perm l).length_eq
def intsOf : List AVal → Option (List Int)
  | [] => some []
  | .sc (.int .i64 n) :: r => (intsOf r).map (n :: ·)
  | _ => none
theorem intsOf_map : ∀ l : List Int, intsOf (l.map aint) = some l
  | [] => rfl
  | a :: r => by show (intsOf (r.map aint)).map (a :: ·) = _; rw [intsOf_map r]; rfl
theorem intsOf_some : ∀ {cs : List AVal} {l : List Int}, intsOf cs = some l → cs = l.map aint
  | [], l, h => by simp [intsOf] at h; subst h; rfl
  | .sc (.int .i64 n) :: r, l, h => by
    have h' : (intsOf r).map (n :: ·) = some l := h
    cases e : intsOf r with
    | none => rw [e] at h'; simp at h'
    | some l' =>
      rw [e] at h'
      simp at h'
      subst h'
      rw [intsOf_some e]
      rfl
/-- What slices.Sort does. -/
def knSort : List AVal → Mem → Option (AVal × Mem)
  | [.sc (.slice none 0 0)], m => some (.tup [], m)
  | [.sl id off len e cap], m => if e = 1 then match m.cells id with
      | some cs => match seg cs off len with
        | some r => match intsOf r with
          | some l => if len = 0 then some (.tup [], m) else if len < 4611686018427387904 then some (.tup [], m.put id (some (.cells (putSeg cs off ((sortI l).map aint))))) else none
          | none => none
        | none => none
      | none => none
    else none
  | _, _ => none
end Go.Am
namespace Go.Proofs.Ytfaphhcloanhnaa
open Go.Am Go.Sort Go.Proofs
theorem putCells_size {α : Type} [Inhabited α] (enc : α → Value) (off : Nat) (d : Array α) (c : Array Value) : (putCells enc off d c).size = c.size := by simp [putCells]
theorem putCells_list (enc : Int → Value) (off : Nat) (d : List Int) (vs : Array Value) (h : off + d.length ≤ vs.size) : (putCells enc off d.toArray vs).toList = vs.toList.take off ++ d.map enc ++ vs.toList.drop (off + d.length) := by
  refine List.ext_getElem? fun k => ?_
  have hl : (vs.toList.take off).length = off := by simp; omega
  simp only [Array.getElem?_toList, putCells, Array.getElem?_mapIdx]
  by_cases h1 : k < off
  · rw [List.append_assoc, List.getElem?_append_left (by omega), List.getElem?_take, if_pos h1, Array.getElem?_toList]
    cases vs[k]? with
    | none => rfl
    | some x => simp; intro h2; omega
  · by_cases h2 : k < off + d.length
    · rw [List.getElem?_append_left (by simp; omega), List.getElem?_append_right (by omega), hl, List.getElem?_map]
      have hk : vs[k]? = some vs[k] := Array.getElem?_eq_getElem (by omega)
      rw [hk]
      have hd : k - off < d.length := by omega
      simp [show off ≤ k by omega, h2, hd]
    · rw [List.getElem?_append_right (by simp; omega), List.getElem?_drop, Array.getElem?_toList]
      have e : off + d.length + (k - (List.take off vs.toList ++ d.map enc).length) = k := by simp; omega
      rw [e]
      cases vs[k]? with
      | none => rfl
      | some x => simp; intro h3 h4; omega
theorem putRow_setRow {α : Type} [Inhabited α] (enc : α → Value) (w : World) (b off : Nat) (d : Array α) {vs : Array Value} {el : TypeId} {fr : Nat × Nat} (hb : w.heap[b]? = some (.cells vs el fr)) : putRow enc w b off d = w.setRow b (putCells enc off d vs) := by
  unfold putRow mapBlock World.setRow
  congr 1
  apply Array.ext_getElem?
  intro k
  simp only [Array.getElem?_modify]
  by_cases hk : b = k
  · subst hk
    simp only [if_true, hb, Option.map_some, onCells]
  · simp [hk]
theorem grow_step (w : World) (n : Nat) (os : Array Obj) : WStep (fun _ => False) w (grow (Go.Sort.ahead w n) os) where
  os := rfl
  tape := rfl
  output := rfl
  size := by show w.heap.size ≤ (w.heap ++ os).size; simp
  keep := fun b hb _ => by show (w.heap ++ os)[b]? = w.heap[b]?; rw [Array.getElem?_append_left hb]
  shape := fun b cs el fr h => ⟨cs, by show (w.heap ++ os)[b]? = _; rw [Array.getElem?_append_left (lt_of_heap h)]; exact h, rfl⟩
/-- Behind a step that turned no box. -/
theorem Post.after {ι ι' : Inj} {S S' : Nat → Prop} {m m' : Mem} {w w1 w2 : World} {v : AVal} {u : Value} (h : Post ι S m w v m' u ι' S' w1) (hs : WStep (fun _ => False) w1 w2) : Post ι S m w v m' u ι' S' w2 where
  inj := h.inj
  news := h.news
  prot := h.prot
  fresh := h.fresh
  step := (h.step.trans hs).mono fun b _ hb => by
    rcases hb with hb | ⟨hb, _⟩
    · exact hb
    · exact hb.elim
  own := h.own
  mem := h.mem.still (InjLe.refl _) hs (fun _ _ f => f)
  rep := h.rep.up h.mem (InjLe.refl _) (fun _ h => h) hs (fun _ _ f => f)
  grow := h.grow
theorem rep_ints {ι : Inj} {S : Nat → Prop} {w : World} {l : List Int} {us : List Value} (h : RepL ι S w (l.map aint) us) : us = l.map (Value.int .i64) := by
  refine List.ext_getElem (by rw [← h.1]; simp) fun j h1 h2 => ?_
  have hl : j < l.length := by simpa using h2
  have := rep_int (h.2 j (aint l[j]) us[j] (by simp [hl]) (List.getElem?_eq_getElem h1))
  rw [this]
  simp
theorem sort_sim {args : List AVal} {m m' : Mem} {v : AVal} (h : knSort args m = some (v, m')) : Sim Try.prog 62 args m v m' ∧ Grow m m' := by
  unfold knSort at h
  split at h
  · simp only [Option.some.injEq, Prod.mk.injEq] at h
    obtain ⟨rfl, rfl⟩ := h
    refine ⟨fun ι S w vargs hr hm hf => ?_, Grow.refl _⟩
    obtain ⟨h1, h2⟩ := hr
    match vargs, h1 with
    | [x], _ =>
      have hx := rep_nil (h2 0 _ x rfl rfl)
      subst hx
      refine (AnyM.slices_Sort_int_none sortA none 0 w).mono ?_
      rintro e w' ⟨rfl, rfl⟩
      exact ⟨_, ι, S, rfl, Post.val hm (.tup rfl (fun j c v hc => by simp at hc))⟩
  · rename_i m0 id off len e cap
    split at h
    · split at h
      · rename_i cs hcs
        split at h
        · rename_i r hseg
          split at h
          · rename_i l hl
            have hr' := intsOf_some hl
            subst hr'
            have hsl := seg_len hseg
            simp only [List.length_map] at hsl
            split at h
            · rename_i h0
              subst h0
              simp only [Option.some.injEq, Prod.mk.injEq] at h
              obtain ⟨rfl, rfl⟩ := h
              refine ⟨fun ι S w vargs hr hm hf => ?_, Grow.refl _⟩
              obtain ⟨h1, h2⟩ := hr
              match vargs, h1 with
              | [x], _ =>
                obtain ⟨b, o, c, a, rfl, _⟩ := rep_sl (h2 0 _ x rfl rfl)
                refine (AnyM.slices_Sort_int_none sortA (some a) c w).mono ?_
                rintro e w' ⟨rfl, rfl⟩
                exact ⟨_, ι, S, rfl, Post.val hm (.tup rfl (fun j c v hc => by simp at hc))⟩
            · rename_i h0
              split at h
              · rename_i h62
                simp only [Option.some.injEq, Prod.mk.injEq] at h
                obtain ⟨rfl, rfl⟩ := h
                refine ⟨fun ι S w vargs hr hm hf => ?_, ?_⟩
                · obtain ⟨h1, h2⟩ := hr
                  match vargs, h1 with
                  | [x], _ =>
                    obtain ⟨b, o, c, a, rfl, hid, hlc, -, ha, -⟩ := rep_sl (h2 0 _ x rfl rfl)
                    have hc0 : c ≠ 0 := Nat.ne_of_gt (Nat.lt_of_lt_of_le (Nat.pos_of_ne_zero h0) hlc)
                    have ha' := ha hc0
                    subst ha'
                    clear ha h2
                    obtain ⟨vs, el, hb, hlen, hrep, hone, hnS⟩ := box_cells hm hcs hid
                    -- the row's own values
                    have hsub : RepL ι S w (l.map aint) ((vs.toList.drop (o + off)).take len) := by
                      refine ⟨by simp; omega, fun j c v hc hv => hrep.2 (off + j) c v ?_ ?_⟩
                      · rw [seg_get hseg (by have := (List.getElem?_eq_some_iff.1 hc).1; simp at this; omega)]
                        exact hc
                      · have hj := (List.getElem?_eq_some_iff.1 hc).1
                        simp only [List.length_map] at hj
                        rw [List.getElem?_take, if_pos (by omega), List.getElem?_drop] at hv
                        rw [List.getElem?_take, if_pos (by omega), List.getElem?_drop, ← Nat.add_assoc]
                        exact hv
                    have hus := rep_ints hsub
                    have hval : ∀ j, j < l.length → vs[o + off + j]? = some (.int .i64 (l.getD j 0)) := by
                      intro j hj
                      have e := congrArg (·[j]?) hus
                      simp only [List.getElem?_take, List.getElem?_drop, List.getElem?_map] at e
                      rw [if_pos (by omega)] at e
                      simp only [Array.getElem?_toList] at e
                      rw [e]
                      simp [hj]
                    have hH : Holds (Value.int .i64) w b (o + off) l.toArray := by
                      intro j hj
                      simp only [List.size_toArray] at hj
                      refine ⟨?_, ?_⟩
                      · unfold World.cell?
                        simp only [hb]
                        rw [hval j hj]
                        simp [hj]
                      · unfold World.frozen?
                        simp only [hb]
                        simp
                    have hcon := AnyM.slices_Sort_int sortA b (o + off) c l w hH (lt_of_heap hb) (by omega)
                    rw [hsl.1] at hcon
                    refine hcon.mono ?_
                    rintro e w' ⟨rfl, n, os, rfl⟩
                    refine ⟨_, ι, S, rfl, ?_⟩
                    rw [putRow_ahead, putRow_setRow _ _ _ _ _ hb, mergeSort_eq]
                    refine Post.after ?_ (grow_step _ n os)
                    refine post_put hm (cells_spec hcs) hid hb (putCells_size _ _ _ _) ?_ ?_ ?_ (.inr trivial) (.tup rfl (fun j c v hc => by simp at hc))
                    · rw [putSeg_length (by simp [sortI_length]; omega), putCells_size]; exact hlen
                    · have hnew : RepL ι S w ((sortI l).map aint) ((sortI l).map (Value.int .i64)) := by
                        refine ⟨by simp, fun j c v hc hv => ?_⟩
                        simp only [List.getElem?_map, Option.map_eq_some_iff] at hc hv
                        obtain ⟨x, h1, rfl⟩ := hc
                        obtain ⟨y, h2, rfl⟩ := hv
                        rw [h1] at h2
                        cases h2
                        exact rep_int_mk .i64 x
                      have hP := hrep.putSeg hnew (off := off) (by simp [sortI_length]; omega) (by simpa using hlen)
                      rw [putSeg_length (by simp [sortI_length]; omega)]
                      have e : (putCells (Value.int .i64) (o + off) (sortI l).toArray vs).toList = vs.toList.take (o + off) ++ (sortI l).map (Value.int .i64) ++ vs.toList.drop (o + off + ((sortI l).map (Value.int .i64)).length) := by
                        rw [List.length_map]
                        exact putCells_list (Value.int .i64) (o + off) (sortI l) vs (by rw [sortI_length]; omega)
                      rw [e]
                      exact hP
                    · exact putSeg_one hone (one_all (all_one_ints _))
                · refine ⟨Nat.le_refl _, by simp only [Mem.put]; omega, fun i hi => ?_⟩
                  simp only [Mem.put, Tr.get_set]
                  by_cases e : i = id
                  · left; omega
                  · right; rw [if_neg e]
              · simp at h
          · simp at h
        · simp at h
      · simp at h
    · simp at h
  · simp at h
end Go.Proofs.Ytfaphhcloanhnaa
namespace Go.Proofs.Ytfaphhcloanhnaa
open Go.Am Go.Ded Go.Dist
set_option maxRecDepth 4000
set_option maxHeartbeats 4000000
variable {E : Env} {L : Hp}
theorem sort_ok (hm : E.mode f_slices_Sort_int_int = .known) (hk : E.known f_slices_Sort_int_int = knSort) {id : Nat} {l : List Int} {cap : Option Nat} {L' : Hp} (hlt : l.length < 4611686018427387904) (hu : Upd id (l.map aint) ((sortI l).map aint) L L') :
    CallO E f_slices_Sort_int_int [.sl id 0 l.length 1 cap] L fun v L1 => v = .tup [] ∧ L1 = L' := by
  refine callO_known hm fun m ho => ?_
  have hc := ho.get hu.in_
  by_cases h0 : l.length = 0
  · have hnil : l = [] := List.length_eq_zero_iff.1 h0
    subst hnil
    refine ⟨.tup [], m, L', ?_, ?_, rfl, rfl⟩
    · rw [hk]
      simp only [knSort, if_true, hc]
      simp [seg, intsOf]
    · have := ho.upd hu
      have e : ∀ {id : Nat} {x : List AVal} {L L' : Hp}, Upd id x x L L' → L' = L := by
        intro id x L L' h
        induction h with
        | here => rfl
        | next h ih => rw [ih]
      rw [e hu]
      exact ho
  · refine ⟨.tup [], m.put id (some (.cells (putSeg (l.map aint) 0 ((sortI l).map aint)))), L', ?_, ?_, rfl, rfl⟩
    · rw [hk]
      simp only [knSort, if_true, hc, seg_full (show (l.map aint).length = l.length by simp), intsOf_map, if_neg h0, if_pos hlt]
    · have e : putSeg (l.map aint) 0 ((sortI l).map aint) = (sortI l).map aint := by
        unfold putSeg
        simp [sortI_length]
      rw [e]
      exact ho.upd hu
theorem sort_nil (hm : E.mode f_slices_Sort_int_int = .known) (hk : E.known f_slices_Sort_int_int = knSort) : CallO E f_slices_Sort_int_int [anil] L fun v L1 => v = .tup [] ∧ L1 = L :=
  callO_known hm fun m ho => ⟨.tup [], m, L, by rw [hk]; rfl, ho, rfl, rfl⟩

theorem BufO.inv {esz n : Nat} {v : AVal} {cs : List AVal} {B : Hp} (h : BufO esz v cs n B) : (v = anil ∧ cs = [] ∧ n = 0 ∧ B = []) ∨ ∃ id, v = .sl id 0 n esz none ∧ B = [(id, cs)] := by
  cases h with
  | nil => exact .inl ⟨rfl, rfl, rfl, rfl⟩
  | box hl h1 => exact .inr ⟨_, rfl, rfl⟩
/-- Place i's neighbours, done. -/
def FinN (ls : Nat → List Nat) (i : Nat) (v : AVal) (B : Hp) : Prop := (v = anil ∧ ls i = [] ∧ B = []) ∨ ∃ id c, B = [(id, c)] ∧ DedO id (sortI (inat (ls i))) v c
def MixN (ls : Nat → List Nat) (k i : Nat) (v : AVal) (B : Hp) : Prop := if i < k then FinN ls i v B else RowN ls i v B
theorem near_l1 {N io : Nat} {ls : Nat → List Nat} (hF : E.fns = fnsT) (hms : E.mode f_slices_Sort_int_int = .known) (hk : E.known f_slices_Sort_int_int = knSort) (hmc : E.mode f_slices_Compact_int_int = .open_) (hN : N ≤ 64) (hlen : ∀ i, (ls i).length ≤ 4000000) :
    ∀ (d k : Nat) (t : Tr AVal) (vs : List AVal) (H : Hp), d + k = N → t.get 3 = some (.sl io 0 N 1 (some N)) → t.get 45 = some (.sl io 0 N 1 (some N)) → t.get 46 = some (aint N) → t.get 47 = some (aint k) → vs.length = N → AllP (MixN ls k) 0 vs H →
    WpO E (.loop c_route_near_l1) t ((io, vs) :: (H ++ L)) (fun ex t' L' => ex = .exit 2 ∧ t'.get 3 = some (.sl io 0 N 1 (some N)) ∧ ∃ vs' H', vs'.length = N ∧ AllP (MixN ls N) 0 vs' H' ∧ L' = (io, vs') :: (H' ++ L)) := by
  intro d
  induction d with
  | zero =>
    intro k t vs H hk' h3 h45 h46 h47 hvs hall
    obtain rfl : k = N := by omega
    refine wo_loop ?_
    repeat (first | intro id | refine goq ?_)
    exact ⟨rfl, by exact slotq, vs, H, hvs, hall, rfl⟩
  | succ d ih =>
    intro k t vs H hk' h3 h45 h46 h47 hvs hall
    obtain ⟨v, B, H1, H2, hv, rfl, hP, hset⟩ := hall.split (i := k) (by omega)
    rw [Nat.zero_add] at hP hset
    have hrow : RowN ls k v B := by unfold MixN at hP; rwa [if_neg (by omega)] at hP
    have hother : ∀ j v B, 0 ≤ j → j ≠ k → MixN ls k j v B → MixN ls (k + 1) j v B := by
      intro j v B _ hne h
      unfold MixN at h ⊢
      by_cases e : j < k
      · rw [if_pos e] at h; rw [if_pos (by omega)]; exact h
      · rw [if_neg e] at h; rw [if_neg (by omega)]; exact h
    have hl := hlen k
    have hil := inat_length (ls k)
    refine wo_loop ?_
    repeat (first | intro id | refine goq ?_)
    refine gok ?_
    rcases BufO.inv hrow with ⟨rfl, hn, hn0, rfl⟩ | ⟨ib, rfl, rfl⟩
    · have hlk : ls k = [] := List.length_eq_zero_iff.1 hn0
      refine (sort_nil hms hk).mono ?_
      rintro u L' ⟨rfl, rfl⟩
      repeat (first | intro id | refine goq ?_)
      refine gok ?_
      refine (compact_nil hF hmc).mono ?_
      rintro u L' ⟨rfl, rfl⟩
      have hvl : (vs.set k anil).length = N := by rw [List.length_set, hvs]
      repeat (first | intro id | refine goq ?_)
      refine WpO.weak (ih (k + 1) _ _ _ ?_ ?_ ?_ ?_ ?_ hvl (hset (MixN ls (k + 1)) anil [] ?_ hother)) ?_
      · omega
      · exact slotq
      · exact slotq
      · exact slotq
      · exact slotq
      · unfold MixN; rw [if_pos (by omega)]; exact .inl ⟨rfl, hlk, rfl⟩
      · rw [List.append_assoc, List.append_assoc]
        exact subq
    · rw [← hil]
      refine (sort_ok (l := inat (ls k)) hms hk (by omega) (Upd.next (by rw [List.append_assoc]; exact Upd.app (Upd.here)))).mono ?_
      rintro u L' ⟨rfl, rfl⟩
      repeat (first | intro id | refine goq ?_)
      refine gok ?_
      rw [show (inat (ls k)).length = (sortI (inat (ls k))).length from (sortI_length _).symm]
      refine CallO.mono (CallO.weak (compact_ok (L := (io, vs) :: (H1 ++ (H2 ++ L))) hF hmc (by rw [sortI_length]; omega)) ?_) ?_
      · refine Sub.cons (Rem.next (Rem.app Rem.one)) ?_
        exact Sub.cons Rem.one (Sub.refl _)
      rintro u L' ⟨c, hd, rfl⟩
      have hu1 : u.one = true := by obtain ⟨cap, e⟩ := hd.val; rw [e]; rfl
      have hvl : (vs.set k u).length = N := by rw [List.length_set, hvs]
      repeat (first | intro id | refine goq ?_)
      refine WpO.weak (ih (k + 1) _ _ _ ?_ ?_ ?_ ?_ ?_ hvl (hset (MixN ls (k + 1)) u [(ib, c)] ?_ hother)) ?_
      · omega
      · exact slotq
      · exact slotq
      · exact slotq
      · exact slotq
      · unfold MixN; rw [if_pos (by omega)]; exact .inr ⟨ib, c, rfl, hd⟩
      · rw [List.append_assoc, List.append_assoc]
        exact subq

/-- The neighbours of a place, rising. -/
def nbl (N : Nat) (ps : List (Nat × Nat)) (i : Nat) : List Nat := (List.range N).filter fun b => ps.contains (i, b) || ps.contains (b, i)
theorem nbl_mem {N : Nat} {ps : List (Nat × Nat)} {i b : Nat} : b ∈ nbl N ps i ↔ b < N ∧ Adj ps i b := by
  unfold nbl Adj
  simp [List.mem_filter]
theorem nbl_rise (N : Nat) (ps : List (Nat × Nat)) (i : Nat) : (inat (nbl N ps i)).Pairwise (· < ·) := by
  unfold inat nbl
  rw [List.pairwise_map]
  refine (List.Pairwise.filter _ List.pairwise_lt_range).imp fun h => by omega
theorem nbl_len (N : Nat) (ps : List (Nat × Nat)) (i : Nat) : (nbl N ps i).length ≤ N := by
  have := List.length_filter_le (fun b => ps.contains (i, b) || ps.contains (b, i)) (List.range N)
  simpa [nbl] using this
theorem dd_nbl {N : Nat} {ps : List (Nat × Nat)} (hps : ∀ k, k < ps.length → (ps.getD k (0, 0)).1 < N ∧ (ps.getD k (0, 0)).2 < N) (i : Nat) : dd (sortI (inat (adjL ps i))) = inat (nbl N ps i) := by
  refine rise_eq (dd_rise _ (sortI_sorted _)) (nbl_rise N ps i) fun x => ?_
  rw [dd_mem, (sortI_perm _).mem_iff]
  have hm := fun b => adjL_mem ps ps.length i b (Nat.le_refl _)
  rw [List.take_length] at hm
  have hlt : ∀ b, Adj ps i b → b < N := by
    intro b hb
    rcases hb with hb | hb
    · obtain ⟨k, hk, e⟩ := List.getElem_of_mem hb
      have := (hps k hk).2
      simp [hk, e] at this
      exact this
    · obtain ⟨k, hk, e⟩ := List.getElem_of_mem hb
      have := (hps k hk).1
      simp [hk, e] at this
      exact this
  unfold inat
  simp only [List.mem_map]
  constructor
  · rintro ⟨b, h1, rfl⟩
    have h2 := (hm b).1 h1
    exact ⟨b, nbl_mem.2 ⟨hlt b h2, h2⟩, rfl⟩
  · rintro ⟨b, h1, rfl⟩
    exact ⟨b, (hm b).2 (nbl_mem.1 h1).2, rfl⟩
def nbs (N : Nat) (ps : List (Nat × Nat)) : List (List Nat) := (List.range N).map (nbl N ps)
theorem nbs_getD {N : Nat} {ps : List (Nat × Nat)} {i : Nat} (h : i < N) : (nbs N ps).getD i [] = nbl N ps i := by simp [nbs, h]
theorem nbs_length (N : Nat) (ps : List (Nat × Nat)) : (nbs N ps).length = N := by simp [nbs]

theorem AllP.view {P : Nat → AVal → Hp → Prop} {k n : Nat} {vs : List AVal} {H : Hp} {rows : Nat → List Int} (h : AllP P k vs H) (hH : ∀ id c, In id c H → In id c L) (hP : ∀ j v B, k ≤ j → j < k + vs.length → P j v B → (∀ id c, In id c B → In id c L) → ∃ u, ViewO L n v u ∧ SlI u (rows j)) :
    ∃ us, ViewL L n vs us ∧ us.length = vs.length ∧ ∀ (j : Nat) u, us[j]? = some u → SlI u (rows (k + j)) := by
  induction h with
  | nil => exact ⟨[], vl_nil, rfl, fun j u h => by simp at h⟩
  | @cons k v vs B H h hr ih =>
    obtain ⟨u, h1, h2⟩ := hP k v B (Nat.le_refl _) (by simp) h fun id c hi => hH id c hi.appl
    obtain ⟨us, h3, h4, h5⟩ := ih (fun id c hi => hH id c hi.app) fun j v B hj hj2 hp hB => hP j v B (by omega) (by simp only [List.length_cons]; omega) hp hB
    refine ⟨u :: us, vl_cons h1 h3, by simp [h4], fun j x hx => ?_⟩
    cases j with
    | zero => simp at hx; subst hx; exact h2
    | succ j => rw [show k + (j + 1) = k + 1 + j by omega]; exact h5 j x (by simpa using hx)
theorem fin_view {N k : Nat} {ps : List (Nat × Nat)} (hps : ∀ k, k < ps.length → (ps.getD k (0, 0)).1 < N ∧ (ps.getD k (0, 0)).2 < N) {j : Nat} {v : AVal} {B : Hp} (h : FinN (adjL ps) j v B) (hB : ∀ id c, In id c B → In id c L) : ∃ u, ViewO L (k + 2) v u ∧ SlI u (inat (nbl N ps j)) := by
  rw [← dd_nbl hps j]
  rcases h with ⟨rfl, h1, rfl⟩ | ⟨id, c, rfl, ⟨cap, rfl⟩, h2⟩
  · rw [h1]
    exact ⟨anil, ⟨fun m hm => rfl⟩, .inl ⟨rfl, rfl, rfl⟩⟩
  · exact ⟨_, vo_sl (hB _ _ .here) (by rw [Nat.mul_one]; exact h2) (vl_sc (sc_ints _)), .inr ⟨cap, rfl⟩⟩
theorem near_ok (hF : E.fns = fnsT) (hm : E.mode f_route_near = .iso true) (hms : E.mode f_slices_Sort_int_int = .known) (hk : E.known f_slices_Sort_int_int = knSort) (hmc : E.mode f_slices_Compact_int_int = .open_) {N : Nat} {va : AVal} {ps : List (Nat × Nat)} (hN : N ≤ 64) (hps : ∀ k, k < ps.length → (ps.getD k (0, 0)).1 < N ∧ (ps.getD k (0, 0)).2 < N) (hva : SlN va ps) (hlt : ps.length ≤ 1000000) :
    CallO E f_route_near [.agg [aint N, va]] L fun v L' => SlS v ((nbs N ps).map inat) ∧ L' = L := by
  refine callO_iso1 hm (fns_of hF n_route_near) ?_ ?_
  · simp only [List.all_cons, List.all_nil, AVal.bare, bareAll, bare_Row hva (bare_pcells _)]; rfl
  refine bodyO_of (Nat.le_of_ble_eq_true rfl) ?_; generalize ht : argSlots _ 0 .nil = t; have h0 : t.get 0 = some _ := (by rw [← ht]; rfl); clear ht
  have hlr : (pcells (ipairs ps)).length = 2 * ps.length := by rw [pcells_length, ipairs_length]
  repeat (first | intro id | refine goq ?_)
  rename_i i1
  refine WpO.mono (near_l0 (L := [(i1, [aint N, va])]) (i1 := i1) hN hps hva hlt ps.length 0 _ (List.replicate N anil) [] (by omega) ?_ ?_ ?_ ?_ (by simp) ?_) ?_
  · exact slotq
  · exact slotq
  · exact slotq
  · exact slotq
  · have : ∀ n k, AllP (RowN (adjL (ps.take 0))) k (List.replicate n anil) [] := by
      intro n
      induction n with
      | zero => intro k; exact .nil
      | succ n ih => intro k; rw [List.replicate_succ]; exact .cons (B := []) .nil (ih (k + 1))
    exact this N 0
  rintro ex t1 L' ⟨rfl, hK, vs, H, hvs, hall, rfl⟩
  have k3 : t1.get 3 = some (.sl id 0 N 1 (some N)) := (hK.ex 3 rfl).trans (by exact slotq)
  repeat (first | intro id | refine goq ?_)
  have hal := fun i => by have := adjL_len ps ps.length i (Nat.le_refl _); rwa [List.take_length] at this
  refine WpO.mono (near_l1 (L := [(i1, [aint N, va])]) (ls := adjL ps) hF hms hk hmc hN (fun i => by have := hal i; omega) N 0 _ vs H (by omega) ?_ ?_ ?_ ?_ hvs ?_) ?_
  · exact slotq
  · exact slotq
  · exact slotq
  · exact slotq
  · refine hall.mono fun j v B _ h => ?_
    unfold MixN
    rw [if_neg (by omega)]
    exact h
  rintro ex t2 L' ⟨rfl, g3, vs', H', hvs', hall', rfl⟩
  repeat (first | intro id | refine goq ?_)
  ((first | apply retO_r | apply retO_n); (focus (exact resq)))
  obtain ⟨us, e1, e2, e3⟩ := hall'.view (L := (id, vs') :: (H' ++ [(i1, [aint N, va])])) (n := 63) (rows := fun j => inat (nbl N ps j)) (fun _ _ h => .next h.appl) fun j v B _ hj hp hB => by
    unfold MixN at hp
    rw [if_pos (by omega)] at hp
    exact fin_view hps hp hB
  refine ⟨.rs us N (some N), vo_sl .here (by rw [Nat.mul_one]; exact seg_full hvs') e1, us, .inr ⟨some N, by rw [List.length_map, nbs_length]⟩, by rw [e2, hvs', List.length_map, nbs_length], fun j u l hu hl => ?_⟩
  have := e3 j u hu
  rw [Nat.zero_add] at this
  have hj : j < N := by have := (List.getElem?_eq_some_iff.1 hu).1; omega
  have e : l = inat (nbl N ps j) := by
    simp only [nbs, List.map_map, List.getElem?_map, List.getElem?_range hj, Option.map_some, Function.comp, Option.some.injEq] at hl
    exact hl.symm
  rw [e]
  exact this
end Go.Proofs.Ytfaphhcloanhnaa
namespace Go.Proofs.Ytfaphhcloanhnaa
open Go.Am Go.Ded Go.Dist
set_option maxRecDepth 4000
set_option maxHeartbeats 4000000
variable {E : Env} {L : Hp}
theorem check_l0 {N : Int} {i1 : Nat} {va : AVal} {ps : List (Int × Int)} (hva : SlP va ps) (hlt : ps.length < 2 ^ 62) :
    ∀ (d k : Nat) (t : Tr AVal), d + k = ps.length → t.get 1 = some (.ptr i1 0) → t.get 14 = some va → t.get 15 = some (aint ps.length) → t.get 16 = some (aint k) →
    WpO E (.loop c_route_Check_l0) t ((i1, [aint N, va]) :: L) (fun ex t' L' => Keep [1] t t' ∧ Am.Sub ((i1, [aint N, va]) :: L) L' ∧ ((ex = .exit 0 ∧ ∀ j, k ≤ j → j < ps.length → okP N (ps.getD j (0, 0))) ∨ (ex = .ret ∧ t'.get 2 = some (aint 200) ∧ ¬ okAll N ps))) := by
  intro d
  induction d with
  | zero =>
    intro k t hk h1 h14 h15 h16
    refine wo_loop ?_
    repeat (first | intro id | refine goq ?_)
    exact ⟨by exact keepq, Sub.refl _, .inl ⟨rfl, fun j h1 h2 => by omega⟩⟩
  | succ d ih =>
    intro k t0 hk h1 h14 h15 h16
    have bad : ¬ okP N (ps.getD k (0, 0)) → ¬ okAll N ps := fun h h' => h (h' k (by omega))
    refine wo_loop ?_
    repeat (first | intro id | refine goq ?_)
    ((first | apply genO6 (t0 := t0) (js := [1]) 1 4 14 15 16 23 | apply genW6 (t0 := t0) (js := [1]) 1 4 14 15 16 23); (focus exact keepq); (focus exact slotq); (focus exact slotq); (focus exact slotq); (focus exact slotq); (focus exact slotq); (focus exact slotq); intro t gK g1 g4 g14 g15 g16 g23)
    (refine oo_guard g23 (fun hc => ?_) (fun hc => ?_) <;> (rw [hc] at g23) <;> (try simp only [decide_eq_true_eq, decide_eq_false_iff_not, ne_eq, Decidable.not_not] at hc))
    · repeat (first | intro id | refine goq ?_)
      exact ⟨by exact keepq, by exact subq, .inr ⟨rfl, by exact slotq, bad fun h => by unfold okP at h; omega⟩⟩
    · repeat (first | intro id | refine goq ?_)
      (refine oo_guard (by exact slotq) (fun hc => ?_) (fun hc => ?_) <;> (try simp only [hc]) <;> (try simp only [decide_eq_true_eq, decide_eq_false_iff_not, ne_eq, Decidable.not_not] at hc))
      · repeat (first | intro id | refine goq ?_)
        exact ⟨by exact keepq, by exact subq, .inr ⟨rfl, by exact slotq, bad fun h => by unfold okP at h; omega⟩⟩
      · repeat (first | intro id | refine goq ?_)
        (refine oo_guard (by exact slotq) (fun hc => ?_) (fun hc => ?_) <;> (try simp only [hc]) <;> (try simp only [decide_eq_true_eq, decide_eq_false_iff_not, ne_eq, Decidable.not_not] at hc))
        · repeat (first | intro id | refine goq ?_)
          exact ⟨by exact keepq, by exact subq, .inr ⟨rfl, by exact slotq, bad fun h => by unfold okP at h; omega⟩⟩
        · repeat (first | intro id | refine goq ?_)
          (refine oo_guard (by exact slotq) (fun hc => ?_) (fun hc => ?_) <;> (try simp only [hc]) <;> (try simp only [decide_eq_true_eq, decide_eq_false_iff_not, ne_eq, Decidable.not_not] at hc))
          · repeat (first | intro id | refine goq ?_)
            exact ⟨by exact keepq, by exact subq, .inr ⟨rfl, by exact slotq, bad fun h => by unfold okP at h; omega⟩⟩
          · repeat (first | intro id | refine goq ?_)
            refine wo_cond_if (by exact slotq) (fun hc => ?_) (fun hc => ?_) <;> (try simp only [decide_eq_true_eq, decide_eq_false_iff_not, ne_eq, Decidable.not_not] at hc)
            · repeat (first | intro id | refine goq ?_)
              exact ⟨by exact keepq, by exact subq, .inr ⟨rfl, by exact slotq, bad fun h => by unfold okP at h; omega⟩⟩
            · repeat (first | intro id | refine goq ?_)
              refine WpO.weak (WpO.mono (ih (k + 1) _ ?_ ?_ ?_ ?_ ?_) ?_) (Sub.skip (Sub.refl _))
              · omega
              · exact slotq
              · exact slotq
              · exact slotq
              · exact slotq
              · rintro ex t' L' ⟨e1, e2, e3⟩
                refine ⟨Keep.trans (by exact keepq) e1, e2, ?_⟩
                rcases e3 with ⟨e3, e4⟩ | e3
                · refine .inl ⟨e3, fun j hj hl => ?_⟩
                  by_cases e : j = k
                  · subst e; unfold okP; omega
                  · exact e4 j (by omega) hl
                · exact .inr e3

theorem Check_ok (hF : E.fns = fnsT) (hm : E.mode f_route_Check = .iso false) (hmn : E.mode f_route_near = .iso true) (hms : E.mode f_slices_Sort_int_int = .known) (hk : E.known f_slices_Sort_int_int = knSort) (hmc : E.mode f_slices_Compact_int_int = .open_) (hst : StepsC E) (hmco : E.mode f_slices_Contains_int_int = .iso false) (hmi : E.mode f_slices_Index_int_int = .iso false)
    {N : Int} {va : AVal} {ps : List (Int × Int)} (hva : SlP va ps) (hlt : ps.length ≤ 1000000) :
    CallO E f_route_Check [.agg [aint N, va]] L fun v L' => (∃ e : Int, v = aint e ∧ (e = 0 ↔ RightP N ps) ∧ (e = 0 ∨ e = 200)) ∧ L' = L := by
  refine callO_iso0 (R := fun v => ∃ e : Int, v = aint e ∧ (e = 0 ↔ RightP N ps) ∧ (e = 0 ∨ e = 200)) hm (fns_of hF n_route_Check) (vs_bare (bare_MapA ⟨va, rfl, hva⟩) vs_nil) ?_
  have no : ¬ RightP N ps → ∃ e : Int, aint 200 = aint e ∧ (e = 0 ↔ RightP N ps) ∧ (e = 0 ∨ e = 200) := fun h => ⟨200, rfl, ⟨fun h => by omega, fun h' => (h h').elim⟩, .inr rfl⟩
  refine bodyO_of (Nat.le_of_ble_eq_true rfl) ?_; generalize ht : argSlots _ 0 .nil = t; have h0 : t.get 0 = some _ := (by rw [← ht]; rfl); clear ht
  by_cases b1 : N < 1
  · repeat (first | intro id | refine goq ?_)
    ((first | apply retO_r | apply retO_n); (focus (exact resq)))
    exact ⟨rfl, no fun h => by have := h.n1; omega⟩
  by_cases b2 : 64 < N
  · repeat (first | intro id | refine goq ?_)
    ((first | apply retO_r | apply retO_n); (focus (exact resq)))
    exact ⟨rfl, no fun h => by have := h.n2; omega⟩
  obtain ⟨M, rfl⟩ : ∃ k : Nat, N = k := ⟨N.toNat, by omega⟩
  repeat (first | intro id | refine goq ?_)
  refine WpO.mono (check_l0 (i1 := id) (L := []) hva (by omega) ps.length 0 _ (by omega) ?_ ?_ ?_ ?_) ?_
  · exact slotq
  · exact slotq
  · exact slotq
  · exact slotq
  rintro ex t1 L' ⟨hK, hsub, ⟨rfl, hall⟩ | ⟨rfl, h2, hbad⟩⟩
  · have h1 : t1.get 1 = some (.ptr id 0) := (hK.ex 1 rfl).trans (by exact slotq)
    have hok : okAll M ps := fun j hj => hall j (by omega) hj
    have hnp := npairs_length ps
    refine blkO.x (seqO.n (WpO.weak ?_ hsub))
    repeat (first | intro id | refine goq ?_)
    refine gok ?_
    refine (near_ok hF hmn hms hk hmc (by omega) (npairs_lt hok) (SlP_N hok hva) (by omega)).mono ?_
    rintro vn L' ⟨hn, rfl⟩
    repeat (first | intro id | refine goq ?_)
    refine gok ?_
    refine (hst _ _ 0 (Adj (npairs ps)) _ _ (by omega) (by omega) (nbs_length _ _) hn (fun a ha b => by rw [nbs_getD ha]; exact nbl_mem) ?_).mono ?_
    · intro a
      by_cases ha : a < M
      · rw [nbs_getD ha]
        have := nbl_len M (npairs ps) a
        omega
      · simp [nbs, ha]
    rintro vs L' ⟨r, Bs, us, hd, hr, rfl, hsee⟩
    have hrd : r = dist M (npairs ps) 0 := hd.unique (dist_is (fun p hp => by
      obtain ⟨k, hk, e⟩ := List.getElem_of_mem hp
      have := npairs_lt hok k hk
      simp only [List.getD_eq_getElem?_getD, List.getElem?_eq_getElem hk, Option.getD_some, e] at this
      exact this) (by omega))
    repeat (first | intro id | refine goq ?_)
    refine gok ?_
    refine (contains_ok hF hmco hmi (hsee _ _ _ (fun _ _ h => h.appl) (vs_bare rfl vs_nil)) hr (by rw [hd.len]; omega)).mono ?_
    rintro u L' ⟨rfl, rfl⟩
    by_cases hc1 : (-1 : Int) ∈ r
    · rw [decide_eq_true hc1]
      repeat (first | intro id | refine goq ?_)
      ((first | apply retO_r | apply retO_n); (focus (exact resq)))
      refine ⟨rfl, no fun h => ?_⟩
      obtain ⟨j, hj, e⟩ := List.getElem_of_mem hc1
      have h4 := h.all j (by rw [Int.toNat_natCast]; rw [hd.len] at hj; exact hj)
      rw [Int.toNat_natCast, ← hrd, List.getD_eq_getElem?_getD, List.getElem?_eq_getElem hj, Option.getD_some, e] at h4
      omega
    · rw [decide_eq_false hc1]
      repeat (first | intro id | refine goq ?_)
      ((first | apply retO_r | apply retO_n); (focus (exact resq)))
      refine ⟨rfl, 0, rfl, ⟨fun _ => ⟨by omega, by omega, hok, fun v hv => ?_⟩, fun _ => rfl⟩, .inl rfl⟩
      rw [Int.toNat_natCast] at hv ⊢
      rw [← hrd]
      have h5 := hd.lo v hv
      by_cases h6 : 0 ≤ r.getD v 0
      · exact h6
      · have h7 : v < r.length := by rw [hd.len]; exact hv
        refine absurd ?_ hc1
        have e : r.getD v 0 = -1 := by omega
        rw [← e, List.getD_eq_getElem?_getD, List.getElem?_eq_getElem h7]
        exact List.getElem_mem h7
  ·
    repeat (first | intro id | refine goq ?_)
    ((first | apply retO_r | apply retO_n); (focus (exact resq)))
    exact ⟨rfl, no fun h => hbad h.ok⟩
end Go.Proofs.Ytfaphhcloanhnaa
namespace Go.Dist
section
variable {N : Nat} {adj : Nat → Nat → Prop}
theorem IsDist.pos {a v : Nat} {r : List Int} (h : IsDist N adj a r) (hv : v < N) (hne : v ≠ a) (h0 : 0 ≤ r.getD v 0) : 1 ≤ r.getD v 0 := by
  obtain ⟨u, _, _, h1, h2⟩ := h.pred v hv hne h0
  omega
theorem IsDist.via {x u : Nat} {r r' : List Int} (h : IsDist N adj x r) (h' : IsDist N adj u r') (hx : x < N) (hu : u < N) (hadj : adj x u) : ∀ (k v : Nat), v < N → r'.getD v 0 = k → 0 ≤ r.getD v 0 ∧ r.getD v 0 ≤ k + 1 := by
  have h0 := h.edge x u hx hu hadj (by rw [h.src0]; omega)
  rw [h.src0] at h0
  intro k
  induction k with
  | zero =>
    intro v hv hk
    by_cases e : v = u
    · subst e; omega
    · have := h'.pos hv e (by omega); omega
  | succ k ih =>
    intro v hv hk
    by_cases e : v = u
    · subst e; have := h'.src0; omega
    · obtain ⟨w, hw, ha, h1, h2⟩ := h'.pred v hv e (by omega)
      have h3 := ih w hw (by omega)
      have h4 := h.edge w v hw hv ha h3.1
      omega
theorem IsDist.tri {a c : Nat} {r r' : List Int} (h : IsDist N adj a r) (h' : IsDist N adj c r') (hc : c < N) (h0 : 0 ≤ r.getD c 0) : ∀ (k v : Nat), v < N → r'.getD v 0 = k → 0 ≤ r.getD v 0 ∧ r.getD v 0 ≤ r.getD c 0 + k := by
  intro k
  induction k with
  | zero =>
    intro v hv hk
    by_cases e : v = c
    · subst e; omega
    · have := h'.pos hv e (by omega); omega
  | succ k ih =>
    intro v hv hk
    by_cases e : v = c
    · subst e; have := h'.src0; omega
    · obtain ⟨w, hw, ha, h1, h2⟩ := h'.pred v hv e (by omega)
      have h3 := ih w hw (by omega)
      have h4 := h.edge w v hw hv ha h3.1
      omega
theorem sym_le (hsym : ∀ a b, adj a b → adj b a) {R : Nat → List Int} (hR : ∀ a, a < N → IsDist N adj a (R a)) {y : Nat} (hy : y < N) : ∀ (k x : Nat), x < N → (R y).getD x 0 = k → 0 ≤ (R x).getD y 0 ∧ (R x).getD y 0 ≤ k := by
  intro k
  induction k with
  | zero =>
    intro x hx hk
    by_cases e : x = y
    · subst e; rw [(hR x hx).src0]; omega
    · have := (hR y hy).pos hx e (by omega); omega
  | succ k ih =>
    intro x hx hk
    by_cases e : x = y
    · subst e; rw [(hR x hx).src0]; omega
    · obtain ⟨u, hu, ha, h1, h2⟩ := (hR y hy).pred x hx e (by omega)
      have h3 := ih u hu (by omega)
      have h4 := (hR x hx).via (hR u hu) hx hu (hsym _ _ ha) ((R u).getD y 0).toNat y hy (by omega)
      omega
theorem sym_eq (hsym : ∀ a b, adj a b → adj b a) {R : Nat → List Int} (hR : ∀ a, a < N → IsDist N adj a (R a)) {x y : Nat} (hx : x < N) (hy : y < N) : (R x).getD y 0 = (R y).getD x 0 := by
  have l1 := (hR x hx).lo y hy
  have l2 := (hR y hy).lo x hx
  by_cases c : 0 ≤ (R y).getD x 0
  · have h1 := sym_le hsym hR hy ((R y).getD x 0).toNat x hx (by omega)
    have h2 := sym_le hsym hR hx ((R x).getD y 0).toNat y hy (by omega)
    omega
  · by_cases c' : 0 ≤ (R x).getD y 0
    · have h2 := sym_le hsym hR hx ((R x).getD y 0).toNat y hy (by omega)
      omega
    · omega
theorem one_iff {a b : Nat} {r : List Int} (h : IsDist N adj a r) (ha : a < N) (hb : b < N) (hne : adj a b → a ≠ b) : r.getD b 0 = 1 ↔ adj a b := by
  constructor
  · intro h1
    have hne : b ≠ a := by rintro rfl; have := h.src0; omega
    obtain ⟨u, hu, hadj, h2, h3⟩ := h.pred b hb hne (by omega)
    have : u = a := by
      apply Classical.byContradiction
      intro e
      have := h.pos hu e h2
      omega
    subst this
    exact hadj
  · intro hadj
    have h1 := h.edge a b ha hb hadj (by rw [h.src0]; omega)
    have h2 := h.pos hb (fun e => hne hadj e.symm) h1.1
    have := h.src0
    omega
/-- A neighbour that is one step nearer. -/
theorem nearer (hsym : ∀ a b, adj a b → adj b a) {R : Nat → List Int} (hR : ∀ a, a < N → IsDist N adj a (R a)) {a b : Nat} (ha : a < N) (hb : b < N) (hne : a ≠ b) (h0 : 0 ≤ (R a).getD b 0) : ∃ k, k < N ∧ adj a k ∧ (R k).getD b 0 = (R a).getD b 0 - 1 := by
  have e := sym_eq hsym hR ha hb
  obtain ⟨u, hu, hadj, h1, h2⟩ := (hR b hb).pred a ha hne (by omega)
  refine ⟨u, hu, hsym _ _ hadj, ?_⟩
  rw [sym_eq hsym hR hu hb]
  omega
end
theorem dist_lt {N src : Nat} {ps : List (Nat × Nat)} (hps : ∀ p ∈ ps, p.1 < N ∧ p.2 < N) (hsrc : src < N) {v : Nat} (hv : v < N) : (dist N ps src).getD v 0 < N :=
  lt_N hsrc (relN_pre hps N 0 (start N src) (by omega) (start_pre (adj := Adj ps) hsrc)) hv
theorem adj_sym {ps : List (Nat × Nat)} : ∀ a b, Adj ps a b → Adj ps b a := fun _ _ h => h.symm
/-- All places hang together: from 0 to each, so from each to each. -/
theorem conn {N : Nat} {ps : List (Nat × Nat)} (hps : ∀ p ∈ ps, p.1 < N ∧ p.2 < N) (h0 : ∀ v, v < N → 0 ≤ (dist N ps 0).getD v 0) {a b : Nat} (ha : a < N) (hb : b < N) : 0 ≤ (dist N ps a).getD b 0 := by
  have hR : ∀ x, x < N → IsDist N (Adj ps) x (dist N ps x) := fun x hx => dist_is hps hx
  have hz : 0 < N := by omega
  have h1 : 0 ≤ (dist N ps a).getD 0 0 := by rw [sym_eq adj_sym hR ha hz]; exact h0 a ha
  exact ((hR a ha).tri (hR 0 hz) hz h1 ((dist N ps 0).getD b 0).toNat b hb (by have := h0 b hb; omega)).1
end Go.Dist
