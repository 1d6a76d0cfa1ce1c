/- slices.Sort at the seat's numbers: the library's own proof of it, laid; what the small machine knows of it. -/
import Derived.Shelf.SortM.Plain
import Derived.Shelf.SortM.SortNone
import Derived.Test.YtfaphhcloanhnaaChecked
import Derived.Test.YtfaphhcloanhnaaAmRun
import Derived.Test.YtfaphhcloanhnaaAmOwn
set_option linter.unusedSimpArgs false
set_option linter.unusedVariables false
namespace Go.Proofs.Ytfaphhcloanhnaa
open Go.Shelf Go.Proofs
/-- Where the library's numbers lie here. -/
def sortA_ren : Go.Shelf.Ren := ⟨fun | 5 => 62 | 8 => 71 | 7 => 74 | 19 => 85 | 20 => 86 | 10 => 87 | 11 => 88 | 12 => 89 | 13 => 90 | 14 => 91 | 15 => 92 | 16 => 93 | 17 => 94 | 18 => 95 | 30 => 104 | 31 => 100 | 32 => 101 | 33 => 105 | 34 => 106 | 35 => 107 | 40 => 112 | n => n, fun | 23 => 44 | 25 => 3 | 3 => 3 | 32 => 112 | 22 => 44 | 0 => 0 | 44 => 125 | 46 => 49 | 4 => 4 | 36 => 118 | 35 => 117 | 41 => 122 | 5 => 5 | 9 => 9 | 53 => 135 | 57 => 139 | 63 => 147 | 64 => 107 | n => n, fun | n => n⟩
set_option maxRecDepth 100000 in
theorem sortA : Go.Proofs.SlLaysM.n5 Try.prog sortA_ren := {
  mixed := by kernel_rfl
  f5 := ⟨Try.f62.name, by decide, Try.func62.trans (congrArg some (by kernel_rfl))⟩
  f7 := ⟨Try.f74.name, by decide, Try.func74.trans (congrArg some (by kernel_rfl))⟩
  f8 := Try.func71.trans (congrArg some (by kernel_rfl))
  f10 := ⟨Try.f87.name, by decide, Try.func87.trans (congrArg some (by kernel_rfl))⟩
  f11 := ⟨Try.f88.name, by decide, Try.func88.trans (congrArg some (by kernel_rfl))⟩
  f12 := ⟨Try.f89.name, by decide, Try.func89.trans (congrArg some (by kernel_rfl))⟩
  f13 := ⟨Try.f90.name, by decide, Try.func90.trans (congrArg some (by kernel_rfl))⟩
  f14 := ⟨Try.f91.name, by decide, Try.func91.trans (congrArg some (by kernel_rfl))⟩
  f15 := ⟨Try.f92.name, by decide, Try.func92.trans (congrArg some (by kernel_rfl))⟩
  f16 := ⟨Try.f93.name, by decide, Try.func93.trans (congrArg some (by kernel_rfl))⟩
  f17 := ⟨Try.f94.name, by decide, Try.func94.trans (congrArg some (by kernel_rfl))⟩
  f18 := ⟨Try.f95.name, by decide, Try.func95.trans (congrArg some (by kernel_rfl))⟩
  f19 := Try.func85.trans (congrArg some (by kernel_rfl))
  f20 := Try.func86.trans (congrArg some (by kernel_rfl))
  f30 := ⟨Try.f104.name, by decide, Try.func104.trans (congrArg some (by kernel_rfl))⟩
  f31 := Try.func100.trans (congrArg some (by kernel_rfl))
  f32 := Try.func101.trans (congrArg some (by kernel_rfl))
  f33 := ⟨Try.f105.name, by decide, Try.func105.trans (congrArg some (by kernel_rfl))⟩
  f34 := ⟨Try.f106.name, by decide, Try.func106.trans (congrArg some (by kernel_rfl))⟩
  f35 := ⟨Try.f107.name, by decide, Try.func107.trans (congrArg some (by kernel_rfl))⟩
  f40 := ⟨Try.f112.name, by decide, Try.func112.trans (congrArg some (by kernel_rfl))⟩
  t0 := Try.underlying0
  a0 := Try.isAgg0
  z0 := Try.sizeOf0
  v0 := Try.zeroValue0
  t3 := Try.underlying3
  a3 := Try.isAgg3
  z3 := Try.sizeOf3
  v3 := Try.zeroValue3
  t4 := Try.underlying4
  a4 := Try.isAgg4
  z4 := Try.sizeOf4
  v4 := Try.zeroValue4
  t5 := Try.underlying5
  a5 := Try.isAgg5
  z5 := Try.sizeOf5
  v5 := Try.zeroValue5
  t9 := Try.underlying9
  a9 := Try.isAgg9
  z9 := Try.sizeOf9
  v9 := Try.zeroValue9
  t22 := Try.underlying44
  a22 := Try.isAgg44
  z22 := Try.sizeOf44
  v22 := Try.zeroValue44
  t23 := Try.underlying44
  a23 := Try.isAgg44
  z23 := Try.sizeOf44
  v23 := Try.zeroValue44
  t25 := Try.underlying3
  a25 := Try.isAgg3
  z25 := Try.sizeOf3
  v25 := Try.zeroValue3
  t32 := Try.underlying112
  a32 := Try.isAgg112
  z32 := Try.sizeOf112
  v32 := Try.zeroValue112
  t35 := Try.underlying117
  a35 := Try.isAgg117
  z35 := Try.sizeOf117
  v35 := Try.zeroValue117
  t36 := Try.underlying118
  a36 := Try.isAgg118
  z36 := Try.sizeOf118
  v36 := Try.zeroValue118
  t41 := Try.underlying122
  a41 := Try.isAgg122
  z41 := Try.sizeOf122
  v41 := Try.zeroValue122
  t44 := Try.underlying125
  a44 := Try.isAgg125
  z44 := Try.sizeOf125
  v44 := Try.zeroValue125
  t46 := Try.underlying49
  a46 := Try.isAgg49
  z46 := Try.sizeOf49
  v46 := Try.zeroValue49
  t53 := Try.underlying135
  a53 := Try.isAgg135
  z53 := Try.sizeOf135
  v53 := Try.zeroValue135
  t57 := Try.underlying139
  a57 := Try.isAgg139
  z57 := Try.sizeOf139
  v57 := Try.zeroValue139
  t63 := Try.underlying147
  a63 := Try.isAgg147
  z63 := Try.sizeOf147
  v63 := Try.zeroValue147
  t64 := Try.underlying107
  a64 := Try.isAgg107
  z64 := Try.sizeOf107
  v64 := Try.zeroValue107 }
end Go.Proofs.Ytfaphhcloanhnaa
namespace Go.Am
/-! Numbers, sorted -/
def insI (x : Int) : List Int → List Int
  | [] => [x]
  | a :: r => if x ≤ a then x :: a :: r else a :: insI x r
def sortI : List Int → List Int
  | [] => []
  | a :: r => insI a (sortI r)
theorem insI_perm (x : Int) : ∀ l, (insI x l).Perm (x :: l)
  | [] => List.Perm.refl _
  | a :: r => by
    unfold insI
    split
    · exact List.Perm.refl _
    · exact ((insI_perm x r).cons a).trans (List.Perm.swap x a r)
theorem sortI_perm : ∀ l, (sortI l).Perm l
  | [] => List.Perm.refl _
  | a :: r => (insI_perm a (sortI r)).trans ((sortI_perm r).cons a)
theorem insI_sorted (x : Int) : ∀ l : List Int, l.Pairwise (· ≤ ·) → (insI x l).Pairwise (· ≤ ·)
  | [], _ => by simp [insI]
  | a :: r, h => by
    have h1 := List.pairwise_cons.1 h
    unfold insI
    split
    · rename_i hle
      refine List.pairwise_cons.2 ⟨fun y hy => ?_, h⟩
      rcases List.mem_cons.1 hy with rfl | hy
      · exact hle
      · exact Int.le_trans hle (h1.1 y hy)
    · rename_i hle
      refine List.pairwise_cons.2 ⟨fun y hy => ?_, insI_sorted x r h1.2⟩
      rcases List.mem_cons.1 ((insI_perm x r).mem_iff.1 hy) with rfl | hy
      · omega
      · exact h1.1 y hy
theorem sortI_sorted : ∀ l : List Int, (sortI l).Pairwise (· ≤ ·)
  | [] => List.Pairwise.nil
  | a :: r => insI_sorted a _ (sortI_sorted r)
theorem sorted_perm_eq : ∀ {a b : List Int}, a.Pairwise (· ≤ ·) → b.Pairwise (· ≤ ·) → a.Perm b → a = b
  | [], b, _, _, h => (h.symm.eq_nil).symm
  | x :: a, [], _, _, h => absurd h.eq_nil (by simp)
  | x :: a, y :: b, ha, hb, h => by
    have ha' := List.pairwise_cons.1 ha
    have hb' := List.pairwise_cons.1 hb
    have e : x = y := by
      have h1 : x ∈ y :: b := h.mem_iff.1 (by simp)
      have h2 : y ∈ x :: a := h.mem_iff.2 (by simp)
      rcases List.mem_cons.1 h1 with e | h1
      · exact e
      · rcases List.mem_cons.1 h2 with e | h2
        · exact e.symm
        · have := ha'.1 y h2
          have := hb'.1 x h1
          omega
    subst e
    rw [sorted_perm_eq ha'.2 hb'.2 (List.perm_cons x |>.1 h)]
theorem mergeSort_eq (l : List Int) : (l.mergeSort fun x y => decide (x ≤ y)) = sortI l := by
  refine sorted_perm_eq ?_ (sortI_sorted l) ((List.mergeSort_perm l _).trans (sortI_perm l).symm)
  have := List.pairwise_mergeSort (le := fun x y : Int => decide (x ≤ y)) (fun a b c h1 h2 => by simp only [decide_eq_true_eq] at *; omega) (fun a b => by simp only [Bool.or_eq_true, decide_eq_true_eq]; omega) l
  exact this.imp fun h => by simpa using h
theorem sortI_length (l : List Int) : (sortI l).length = l.length := (sortI_perm l).length_eq
def intsOf : List AVal → Option (List Int)
  | [] => some []
  | .sc (.int .i64 n) :: r => (intsOf r).map (n :: ·)
  | _ => none
theorem intsOf_map : ∀ l : List Int, intsOf (l.map aint) = some l
  | [] => rfl
  | a :: r => by show (intsOf (r.map aint)).map (a :: ·) = _; rw [intsOf_map r]; rfl
theorem intsOf_some : ∀ {cs : List AVal} {l : List Int}, intsOf cs = some l → cs = l.map aint
  | [], l, h => by simp [intsOf] at h; subst h; rfl
  | .sc (.int .i64 n) :: r, l, h => by
    have h' : (intsOf r).map (n :: ·) = some l := h
    cases e : intsOf r with
    | none => rw [e] at h'; simp at h'
    | some l' =>
      rw [e] at h'
      simp at h'
      subst h'
      rw [intsOf_some e]
      rfl
/-- What slices.Sort does. -/
def knSort : List AVal → Mem → Option (AVal × Mem)
  | [.sc (.slice none 0 0)], m => some (.tup [], m)
  | [.sl id off len e cap], m => if e = 1 then match m.cells id with
      | some cs => match seg cs off len with
        | some r => match intsOf r with
          | some l => if len = 0 then some (.tup [], m) else if len < 4611686018427387904 then some (.tup [], m.put id (some (.cells (putSeg cs off ((sortI l).map aint))))) else none
          | none => none
        | none => none
      | none => none
    else none
  | _, _ => none
end Go.Am
namespace Go.Proofs.Ytfaphhcloanhnaa
open Go.Am Go.Sort Go.Proofs
theorem putCells_size {α : Type} [Inhabited α] (enc : α → Value) (off : Nat) (d : Array α) (c : Array Value) : (putCells enc off d c).size = c.size := by simp [putCells]
theorem putCells_list (enc : Int → Value) (off : Nat) (d : List Int) (vs : Array Value) (h : off + d.length ≤ vs.size) : (putCells enc off d.toArray vs).toList = vs.toList.take off ++ d.map enc ++ vs.toList.drop (off + d.length) := by
  refine List.ext_getElem? fun k => ?_
  have hl : (vs.toList.take off).length = off := by simp; omega
  simp only [Array.getElem?_toList, putCells, Array.getElem?_mapIdx]
  by_cases h1 : k < off
  · rw [List.append_assoc, List.getElem?_append_left (by omega), List.getElem?_take, if_pos h1, Array.getElem?_toList]
    cases vs[k]? with
    | none => rfl
    | some x => simp; intro h2; omega
  · by_cases h2 : k < off + d.length
    · rw [List.getElem?_append_left (by simp; omega), List.getElem?_append_right (by omega), hl, List.getElem?_map]
      have hk : vs[k]? = some vs[k] := Array.getElem?_eq_getElem (by omega)
      rw [hk]
      have hd : k - off < d.length := by omega
      simp [show off ≤ k by omega, h2, hd]
    · rw [List.getElem?_append_right (by simp; omega), List.getElem?_drop, Array.getElem?_toList]
      have e : off + d.length + (k - (List.take off vs.toList ++ d.map enc).length) = k := by simp; omega
      rw [e]
      cases vs[k]? with
      | none => rfl
      | some x => simp; intro h3 h4; omega
theorem putRow_setRow {α : Type} [Inhabited α] (enc : α → Value) (w : World) (b off : Nat) (d : Array α) {vs : Array Value} {el : TypeId} {fr : Nat × Nat} (hb : w.heap[b]? = some (.cells vs el fr)) : putRow enc w b off d = w.setRow b (putCells enc off d vs) := by
  unfold putRow mapBlock World.setRow
  congr 1
  apply Array.ext_getElem?
  intro k
  simp only [Array.getElem?_modify]
  by_cases hk : b = k
  · subst hk
    simp only [if_true, hb, Option.map_some, onCells]
  · simp [hk]
theorem grow_step (w : World) (n : Nat) (os : Array Obj) : WStep (fun _ => False) w (grow (Go.Sort.ahead w n) os) where
  os := rfl
  tape := rfl
  output := rfl
  size := by show w.heap.size ≤ (w.heap ++ os).size; simp
  keep := fun b hb _ => by show (w.heap ++ os)[b]? = w.heap[b]?; rw [Array.getElem?_append_left hb]
  shape := fun b cs el fr h => ⟨cs, by show (w.heap ++ os)[b]? = _; rw [Array.getElem?_append_left (lt_of_heap h)]; exact h, rfl⟩
/-- Behind a step that turned no box. -/
theorem Post.after {ι ι' : Inj} {S S' : Nat → Prop} {m m' : Mem} {w w1 w2 : World} {v : AVal} {u : Value} (h : Post ι S m w v m' u ι' S' w1) (hs : WStep (fun _ => False) w1 w2) : Post ι S m w v m' u ι' S' w2 where
  inj := h.inj
  news := h.news
  prot := h.prot
  fresh := h.fresh
  step := (h.step.trans hs).mono fun b _ hb => by
    rcases hb with hb | ⟨hb, _⟩
    · exact hb
    · exact hb.elim
  own := h.own
  mem := h.mem.still (InjLe.refl _) hs (fun _ _ f => f)
  rep := h.rep.up h.mem (InjLe.refl _) (fun _ h => h) hs (fun _ _ f => f)
  grow := h.grow
theorem rep_ints {ι : Inj} {S : Nat → Prop} {w : World} {l : List Int} {us : List Value} (h : RepL ι S w (l.map aint) us) : us = l.map (Value.int .i64) := by
  refine List.ext_getElem (by rw [← h.1]; simp) fun j h1 h2 => ?_
  have hl : j < l.length := by simpa using h2
  have := rep_int (h.2 j (aint l[j]) us[j] (by simp [hl]) (List.getElem?_eq_getElem h1))
  rw [this]
  simp
theorem sort_sim {args : List AVal} {m m' : Mem} {v : AVal} (h : knSort args m = some (v, m')) : Sim Try.prog 62 args m v m' ∧ Grow m m' := by
  unfold knSort at h
  split at h
  · simp only [Option.some.injEq, Prod.mk.injEq] at h
    obtain ⟨rfl, rfl⟩ := h
    refine ⟨fun ι S w vargs hr hm hf => ?_, Grow.refl _⟩
    obtain ⟨h1, h2⟩ := hr
    match vargs, h1 with
    | [x], _ =>
      have hx := rep_nil (h2 0 _ x rfl rfl)
      subst hx
      refine (AnyM.slices_Sort_int_none sortA none 0 w).mono ?_
      rintro e w' ⟨rfl, rfl⟩
      exact ⟨_, ι, S, rfl, Post.val hm (.tup rfl (fun j c v hc => by simp at hc))⟩
  · rename_i m0 id off len e cap
    split at h
    · split at h
      · rename_i cs hcs
        split at h
        · rename_i r hseg
          split at h
          · rename_i l hl
            have hr' := intsOf_some hl
            subst hr'
            have hsl := seg_len hseg
            simp only [List.length_map] at hsl
            split at h
            · rename_i h0
              subst h0
              simp only [Option.some.injEq, Prod.mk.injEq] at h
              obtain ⟨rfl, rfl⟩ := h
              refine ⟨fun ι S w vargs hr hm hf => ?_, Grow.refl _⟩
              obtain ⟨h1, h2⟩ := hr
              match vargs, h1 with
              | [x], _ =>
                obtain ⟨b, o, c, a, rfl, _⟩ := rep_sl (h2 0 _ x rfl rfl)
                refine (AnyM.slices_Sort_int_none sortA (some a) c w).mono ?_
                rintro e w' ⟨rfl, rfl⟩
                exact ⟨_, ι, S, rfl, Post.val hm (.tup rfl (fun j c v hc => by simp at hc))⟩
            · rename_i h0
              split at h
              · rename_i h62
                simp only [Option.some.injEq, Prod.mk.injEq] at h
                obtain ⟨rfl, rfl⟩ := h
                refine ⟨fun ι S w vargs hr hm hf => ?_, ?_⟩
                · obtain ⟨h1, h2⟩ := hr
                  match vargs, h1 with
                  | [x], _ =>
                    obtain ⟨b, o, c, a, rfl, hid, hlc, -, ha, -⟩ := rep_sl (h2 0 _ x rfl rfl)
                    have hc0 : c ≠ 0 := Nat.ne_of_gt (Nat.lt_of_lt_of_le (Nat.pos_of_ne_zero h0) hlc)
                    have ha' := ha hc0
                    subst ha'
                    clear ha h2
                    obtain ⟨vs, el, hb, hlen, hrep, hone, hnS⟩ := box_cells hm hcs hid
                    -- the row's own values
                    have hsub : RepL ι S w (l.map aint) ((vs.toList.drop (o + off)).take len) := by
                      refine ⟨by simp; omega, fun j c v hc hv => hrep.2 (off + j) c v ?_ ?_⟩
                      · rw [seg_get hseg (by have := (List.getElem?_eq_some_iff.1 hc).1; simp at this; omega)]
                        exact hc
                      · have hj := (List.getElem?_eq_some_iff.1 hc).1
                        simp only [List.length_map] at hj
                        rw [List.getElem?_take, if_pos (by omega), List.getElem?_drop] at hv
                        rw [List.getElem?_take, if_pos (by omega), List.getElem?_drop, ← Nat.add_assoc]
                        exact hv
                    have hus := rep_ints hsub
                    have hval : ∀ j, j < l.length → vs[o + off + j]? = some (.int .i64 (l.getD j 0)) := by
                      intro j hj
                      have e := congrArg (·[j]?) hus
                      simp only [List.getElem?_take, List.getElem?_drop, List.getElem?_map] at e
                      rw [if_pos (by omega)] at e
                      simp only [Array.getElem?_toList] at e
                      rw [e]
                      simp [hj]
                    have hH : Holds (Value.int .i64) w b (o + off) l.toArray := by
                      intro j hj
                      simp only [List.size_toArray] at hj
                      refine ⟨?_, ?_⟩
                      · unfold World.cell?
                        simp only [hb]
                        rw [hval j hj]
                        simp [hj]
                      · unfold World.frozen?
                        simp only [hb]
                        simp
                    have hcon := AnyM.slices_Sort_int sortA b (o + off) c l w hH (lt_of_heap hb) (by omega)
                    rw [hsl.1] at hcon
                    refine hcon.mono ?_
                    rintro e w' ⟨rfl, n, os, rfl⟩
                    refine ⟨_, ι, S, rfl, ?_⟩
                    rw [putRow_ahead, putRow_setRow _ _ _ _ _ hb, mergeSort_eq]
                    refine Post.after ?_ (grow_step _ n os)
                    refine post_put hm (cells_spec hcs) hid hb (putCells_size _ _ _ _) ?_ ?_ ?_ (.inr trivial) (.tup rfl (fun j c v hc => by simp at hc))
                    · rw [putSeg_length (by simp [sortI_length]; omega), putCells_size]; exact hlen
                    · have hnew : RepL ι S w ((sortI l).map aint) ((sortI l).map (Value.int .i64)) := by
                        refine ⟨by simp, fun j c v hc hv => ?_⟩
                        simp only [List.getElem?_map, Option.map_eq_some_iff] at hc hv
                        obtain ⟨x, h1, rfl⟩ := hc
                        obtain ⟨y, h2, rfl⟩ := hv
                        rw [h1] at h2
                        cases h2
                        exact rep_int_mk .i64 x
                      have hP := hrep.putSeg hnew (off := off) (by simp [sortI_length]; omega) (by simpa using hlen)
                      rw [putSeg_length (by simp [sortI_length]; omega)]
                      have e : (putCells (Value.int .i64) (o + off) (sortI l).toArray vs).toList = vs.toList.take (o + off) ++ (sortI l).map (Value.int .i64) ++ vs.toList.drop (o + off + ((sortI l).map (Value.int .i64)).length) := by
                        rw [List.length_map]
                        exact putCells_list (Value.int .i64) (o + off) (sortI l) vs (by rw [sortI_length]; omega)
                      rw [e]
                      exact hP
                    · exact putSeg_one hone (one_all (all_one_ints _))
                · refine ⟨Nat.le_refl _, by simp only [Mem.put]; omega, fun i hi => ?_⟩
                  simp only [Mem.put, Tr.get_set]
                  by_cases e : i = id
                  · left; omega
                  · right; rw [if_neg e]
              · simp at h
          · simp at h
        · simp at h
      · simp at h
    · simp at h
  · simp at h
end Go.Proofs.Ytfaphhcloanhnaa
