/- Parts of the proof, joined by program: RwKG, RwEK, RwT1. -/
import Derived.Shelf.SortM.Plain
import Derived.Shelf.SortM.SortNone
import Derived.Test.YtmflheoafeenfaaGreatChecked
import Derived.Test.YtmflheoafeenfaaGreatPa22
import Derived.Test.YtmflheoafeenfaaGreatPa7
import Derived.Test.YtmflheoafeenfaaGreatPa23
import Derived.Test.YtmflheoafeenfaaGreatPa11
import Derived.Test.YtmflheoafeenfaaGreatPa10
set_option linter.unusedSimpArgs false
set_option linter.unusedVariables false
namespace Go.Proofs.YtmflheoafeenfaaGreat
open Go.Shelf Go.Proofs
/-- Where the library's numbers lie here. -/
def sortA_ren : Go.Shelf.Ren := ⟨fun | 5 => 152 | 8 => 158 | 7 => 157 | 19 => 168 | 20 => 169 | 10 => 159 | 11 => 160 | 12 => 161 | 13 => 162 | 14 => 163 | 15 => 164 | 16 => 165 | 17 => 166 | 18 => 167 | 30 => 170 | 31 => 171 | 32 => 172 | 33 => 173 | 34 => 174 | 35 => 137 | 40 => 175 | n => n, fun | 23 => 52 | 25 => 3 | 3 => 3 | 32 => 71 | 22 => 52 | 0 => 0 | 44 => 183 | 46 => 69 | 4 => 4 | 36 => 175 | 35 => 174 | 41 => 180 | 5 => 5 | 9 => 9 | 53 => 185 | 57 => 189 | 63 => 191 | 64 => 102 | n => n, fun | n => n⟩
set_option maxRecDepth 100000 in
theorem sortA : Go.Proofs.SlLaysM.n5 Tryz.prog sortA_ren := {
  mixed := by kernel_rfl
  f5 := ⟨Tryz.f152.name, by decide, Tryz.func152.trans (congrArg some (by kernel_rfl))⟩
  f7 := ⟨Tryz.f157.name, by decide, Tryz.func157.trans (congrArg some (by kernel_rfl))⟩
  f8 := Tryz.func158.trans (congrArg some (by kernel_rfl))
  f10 := ⟨Tryz.f159.name, by decide, Tryz.func159.trans (congrArg some (by kernel_rfl))⟩
  f11 := ⟨Tryz.f160.name, by decide, Tryz.func160.trans (congrArg some (by kernel_rfl))⟩
  f12 := ⟨Tryz.f161.name, by decide, Tryz.func161.trans (congrArg some (by kernel_rfl))⟩
  f13 := ⟨Tryz.f162.name, by decide, Tryz.func162.trans (congrArg some (by kernel_rfl))⟩
  f14 := ⟨Tryz.f163.name, by decide, Tryz.func163.trans (congrArg some (by kernel_rfl))⟩
  f15 := ⟨Tryz.f164.name, by decide, Tryz.func164.trans (congrArg some (by kernel_rfl))⟩
  f16 := ⟨Tryz.f165.name, by decide, Tryz.func165.trans (congrArg some (by kernel_rfl))⟩
  f17 := ⟨Tryz.f166.name, by decide, Tryz.func166.trans (congrArg some (by kernel_rfl))⟩
  f18 := ⟨Tryz.f167.name, by decide, Tryz.func167.trans (congrArg some (by kernel_rfl))⟩
  f19 := Tryz.func168.trans (congrArg some (by kernel_rfl))
  f20 := Tryz.func169.trans (congrArg some (by kernel_rfl))
  f30 := ⟨Tryz.f170.name, by decide, Tryz.func170.trans (congrArg some (by kernel_rfl))⟩
  f31 := Tryz.func171.trans (congrArg some (by kernel_rfl))
  f32 := Tryz.func172.trans (congrArg some (by kernel_rfl))
  f33 := ⟨Tryz.f173.name, by decide, Tryz.func173.trans (congrArg some (by kernel_rfl))⟩
  f34 := ⟨Tryz.f174.name, by decide, Tryz.func174.trans (congrArg some (by kernel_rfl))⟩
  f35 := ⟨Tryz.f137.name, by decide, Tryz.func137.trans (congrArg some (by kernel_rfl))⟩
  f40 := ⟨Tryz.f175.name, by decide, Tryz.func175.trans (congrArg some (by kernel_rfl))⟩
  t0 := Tryz.underlying0
  a0 := Tryz.isAgg0
  z0 := Tryz.sizeOf0
  v0 := Tryz.zeroValue0
  t3 := Tryz.underlying3
  a3 := Tryz.isAgg3
  z3 := Tryz.sizeOf3
  v3 := Tryz.zeroValue3
  t4 := Tryz.underlying4
  a4 := Tryz.isAgg4
  z4 := Tryz.sizeOf4
  v4 := Tryz.zeroValue4
  t5 := Tryz.underlying5
  a5 := Tryz.isAgg5
  z5 := Tryz.sizeOf5
  v5 := Tryz.zeroValue5
  t9 := Tryz.underlying9
  a9 := Tryz.isAgg9
  z9 := Tryz.sizeOf9
  v9 := Tryz.zeroValue9
  t22 := Tryz.underlying52
  a22 := Tryz.isAgg52
  z22 := Tryz.sizeOf52
  v22 := Tryz.zeroValue52
  t23 := Tryz.underlying52
  a23 := Tryz.isAgg52
  z23 := Tryz.sizeOf52
  v23 := Tryz.zeroValue52
  t25 := Tryz.underlying3
  a25 := Tryz.isAgg3
  z25 := Tryz.sizeOf3
  v25 := Tryz.zeroValue3
  t32 := Tryz.underlying71
  a32 := Tryz.isAgg71
  z32 := Tryz.sizeOf71
  v32 := Tryz.zeroValue71
  t35 := Tryz.underlying174
  a35 := Tryz.isAgg174
  z35 := Tryz.sizeOf174
  v35 := Tryz.zeroValue174
  t36 := Tryz.underlying175
  a36 := Tryz.isAgg175
  z36 := Tryz.sizeOf175
  v36 := Tryz.zeroValue175
  t41 := Tryz.underlying180
  a41 := Tryz.isAgg180
  z41 := Tryz.sizeOf180
  v41 := Tryz.zeroValue180
  t44 := Tryz.underlying183
  a44 := Tryz.isAgg183
  z44 := Tryz.sizeOf183
  v44 := Tryz.zeroValue183
  t46 := Tryz.underlying69
  a46 := Tryz.isAgg69
  z46 := Tryz.sizeOf69
  v46 := Tryz.zeroValue69
  t53 := Tryz.underlying185
  a53 := Tryz.isAgg185
  z53 := Tryz.sizeOf185
  v53 := Tryz.zeroValue185
  t57 := Tryz.underlying189
  a57 := Tryz.isAgg189
  z57 := Tryz.sizeOf189
  v57 := Tryz.zeroValue189
  t63 := Tryz.underlying191
  a63 := Tryz.isAgg191
  z63 := Tryz.sizeOf191
  v63 := Tryz.zeroValue191
  t64 := Tryz.underlying102
  a64 := Tryz.isAgg102
  z64 := Tryz.sizeOf102
  v64 := Tryz.zeroValue102 }
end Go.Proofs.YtmflheoafeenfaaGreat
namespace Go.Am
/-! Numbers, sorted -/
def insI (x : Int) : List Int → List Int
  | [] => [x]
  | a :: r => if x ≤ a then x :: a :: r else a :: insI x r
def sortI : List Int → List Int
  | [] => []
  | a :: r => insI a (sortI r)
theorem insI_perm (x : Int) : ∀ l, (insI x l).Perm (x :: l)
  | [] => List.Perm.refl _
  | a :: r => by
    unfold insI
    split
    · exact List.Perm.refl _
    · exact ((insI_perm x r).cons a).trans (List.Perm.swap x a r)
theorem sortI_perm : ∀ l, (sortI l).Perm l
  | [] => List.Perm.refl _
  | a :: r => (insI_perm a (sortI r)).trans ((sortI_perm r).cons a)
theorem insI_sorted (x : Int) : ∀ l : List Int, l.Pairwise (· ≤ ·) → (insI x l).Pairwise (· ≤ ·)
  | [], _ => by simp [insI]
  | a :: r, h => by
    have h1 := List.pairwise_cons.1 h
    unfold insI
    split
    · rename_i hle
      refine List.pairwise_cons.2 ⟨fun y hy => ?_, h⟩
      rcases List.mem_cons.1 hy with rfl | hy
      · exact hle
      · exact Int.le_trans hle (h1.1 y hy)
    · rename_i hle
      refine List.pairwise_cons.2 ⟨fun y hy => ?_, insI_sorted x r h1.2⟩
      rcases List.mem_cons.1 ((insI_perm x r).mem_iff.1 hy) with rfl | hy
      · omega
      · exact h1.1 y hy
theorem sortI_sorted : ∀ l : List Int, (sortI l).Pairwise (· ≤ ·)
  | [] => List.Pairwise.nil
  | a :: r => insI_sorted a _ (sortI_sorted r)
theorem sorted_perm_eq : ∀ {a b : List Int}, a.Pairwise (· ≤ ·) → b.Pairwise (· ≤ ·) → a.Perm b → a = b
  | [], b, _, _, h => (h.symm.eq_nil).symm
  | x :: a, [], _, _, h => absurd h.eq_nil (by simp)
  | x :: a, y :: b, ha, hb, h => by
    have ha' := List.pairwise_cons.1 ha
    have hb' := List.pairwise_cons.1 hb
    have e : x = y := by
      have h1 : x ∈ y :: b := h.mem_iff.1 (by simp)
      have h2 : y ∈ x :: a := h.mem_iff.2 (by simp)
      rcases List.mem_cons.1 h1 with e | h1
      · exact e
      · rcases List.mem_cons.1 h2 with e | h2
        · exact e.symm
        · have := ha'.1 y h2
          have := hb'.1 x h1
          omega
    subst e
    rw [sorted_perm_eq ha'.2 hb'.2 (List.perm_cons x |>.1 h)]
theorem mergeSort_eq (l : List Int) : (l.mergeSort fun x y => decide (x ≤ y)) = sortI l := by
  refine sorted_perm_eq ?_ (sortI_sorted l) ((List.mergeSort_perm l _).trans (sortI_perm l).symm)
  have := List.pairwise_mergeSort (le := fun x y : Int => decide (x ≤ y)) (fun a b c h1 h2 => by simp only [decide_eq_true_eq] at *; omega) (fun a b => by simp only [Bool.or_eq_true, decide_eq_true_eq]; omega) l
  exact this.imp fun h => by simpa using h
theorem sortI_length (l : List Int) : (sortI l).length = l.length := (sortI_perm l).length_eq
def intsOf : List AVal → Option (List Int)
  | [] => some []
  | .sc (.int .i64 n) :: r => (intsOf r).map (n :: ·)
  | _ => none
theorem intsOf_map : ∀ l : List Int, intsOf (l.map aint) = some l
  | [] => rfl
  | a :: r => by show (intsOf (r.map aint)).map (a :: ·) = _; rw [intsOf_map r]; rfl
theorem intsOf_some : ∀ {cs : List AVal} {l : List Int}, intsOf cs = some l → cs = l.map aint
  | [], l, h => by simp [intsOf] at h; subst h; rfl
  | .sc (.int .i64 n) :: r, l, h => by
    have h' : (intsOf r).map (n :: ·) = some l := h
    cases e : intsOf r with
    | none => rw [e] at h'; simp at h'
    | some l' =>
      rw [e] at h'
      simp at h'
      subst h'
      rw [intsOf_some e]
      rfl
/-- What slices.Sort does. -/
def knSort : List AVal → Mem → Option (AVal × Mem)
  | [.sc (.slice none 0 0)], m => some (.tup [], m)
  | [.sl id off len e cap], m => if e = 1 then match m.cells id with
      | some cs => match seg cs off len with
        | some r => match intsOf r with
          | some l => if len = 0 then some (.tup [], m) else if len < 4611686018427387904 then some (.tup [], m.put id (some (.cells (putSeg cs off ((sortI l).map aint))))) else none
          | none => none
        | none => none
      | none => none
    else none
  | _, _ => none
end Go.Am
namespace Go.Proofs.YtmflheoafeenfaaGreat
open Go.Am Go.Sort Go.Proofs
theorem putCells_size {α : Type} [Inhabited α] (enc : α → Value) (off : Nat) (d : Array α) (c : Array Value) : (putCells enc off d c).size = c.size := by simp [putCells]
theorem putCells_list (enc : Int → Value) (off : Nat) (d : List Int) (vs : Array Value) (h : off + d.length ≤ vs.size) : (putCells enc off d.toArray vs).toList = vs.toList.take off ++ d.map enc ++ vs.toList.drop (off + d.length) := by
  refine List.ext_getElem? fun k => ?_
  have hl : (vs.toList.take off).length = off := by simp; omega
  simp only [Array.getElem?_toList, putCells, Array.getElem?_mapIdx]
  by_cases h1 : k < off
  · rw [List.append_assoc, List.getElem?_append_left (by omega), List.getElem?_take, if_pos h1, Array.getElem?_toList]
    cases vs[k]? with
    | none => rfl
    | some x => simp; intro h2; omega
  · by_cases h2 : k < off + d.length
    · rw [List.getElem?_append_left (by simp; omega), List.getElem?_append_right (by omega), hl, List.getElem?_map]
      have hk : vs[k]? = some vs[k] := Array.getElem?_eq_getElem (by omega)
      rw [hk]
      have hd : k - off < d.length := by omega
      simp [show off ≤ k by omega, h2, hd]
    · rw [List.getElem?_append_right (by simp; omega), List.getElem?_drop, Array.getElem?_toList]
      have e : off + d.length + (k - (List.take off vs.toList ++ d.map enc).length) = k := by simp; omega
      rw [e]
      cases vs[k]? with
      | none => rfl
      | some x => simp; intro h3 h4; omega
theorem putRow_setRow {α : Type} [Inhabited α] (enc : α → Value) (w : World) (b off : Nat) (d : Array α) {vs : Array Value} {el : TypeId} {fr : Nat × Nat} (hb : w.heap[b]? = some (.cells vs el fr)) : putRow enc w b off d = w.setRow b (putCells enc off d vs) := by
  unfold putRow mapBlock World.setRow
  congr 1
  apply Array.ext_getElem?
  intro k
  simp only [Array.getElem?_modify]
  by_cases hk : b = k
  · subst hk
    simp only [if_true, hb, Option.map_some, onCells]
  · simp [hk]
theorem grow_step (w : World) (n : Nat) (os : Array Obj) : WStep (fun _ => False) w (grow (Go.Sort.ahead w n) os) where
  os := rfl
  tape := rfl
  output := rfl
  size := by show w.heap.size ≤ (w.heap ++ os).size; simp
  keep := fun b hb _ => by show (w.heap ++ os)[b]? = w.heap[b]?; rw [Array.getElem?_append_left hb]
  shape := fun b cs el fr h => ⟨cs, by show (w.heap ++ os)[b]? = _; rw [Array.getElem?_append_left (lt_of_heap h)]; exact h, rfl⟩
/-- Behind a step that turned no box. -/
theorem Post.after {ι ι' : Inj} {S S' : Nat → Prop} {m m' : Mem} {w w1 w2 : World} {v : AVal} {u : Value} (h : Post ι S m w v m' u ι' S' w1) (hs : WStep (fun _ => False) w1 w2) : Post ι S m w v m' u ι' S' w2 where
  inj := h.inj
  news := h.news
  prot := h.prot
  fresh := h.fresh
  step := (h.step.trans hs).mono fun b _ hb => by
    rcases hb with hb | ⟨hb, _⟩
    · exact hb
    · exact hb.elim
  own := h.own
  mem := h.mem.still (InjLe.refl _) hs (fun _ _ f => f)
  rep := h.rep.up h.mem (InjLe.refl _) (fun _ h => h) hs (fun _ _ f => f)
  grow := h.grow
theorem rep_ints {ι : Inj} {S : Nat → Prop} {w : World} {l : List Int} {us : List Value} (h : RepL ι S w (l.map aint) us) : us = l.map (Value.int .i64) := by
  refine List.ext_getElem (by rw [← h.1]; simp) fun j h1 h2 => ?_
  have hl : j < l.length := by simpa using h2
  have := rep_int (h.2 j (aint l[j]) us[j] (by simp [hl]) (List.getElem?_eq_getElem h1))
  rw [this]
  simp
theorem sort_sim {args : List AVal} {m m' : Mem} {v : AVal} (h : knSort args m = some (v, m')) : Sim Tryz.prog 152 args m v m' ∧ Grow m m' := by
  unfold knSort at h
  split at h
  · simp only [Option.some.injEq, Prod.mk.injEq] at h
    obtain ⟨rfl, rfl⟩ := h
    refine ⟨fun ι S w vargs hr hm hf => ?_, Grow.refl _⟩
    obtain ⟨h1, h2⟩ := hr
    match vargs, h1 with
    | [x], _ =>
      have hx := rep_nil (h2 0 _ x rfl rfl)
      subst hx
      refine (AnyM.slices_Sort_int_none sortA none 0 w).mono ?_
      rintro e w' ⟨rfl, rfl⟩
      exact ⟨_, ι, S, rfl, Post.val hm (.tup rfl (fun j c v hc => by simp at hc))⟩
  · rename_i m0 id off len e cap
    split at h
    · split at h
      · rename_i cs hcs
        split at h
        · rename_i r hseg
          split at h
          · rename_i l hl
            have hr' := intsOf_some hl
            subst hr'
            have hsl := seg_len hseg
            simp only [List.length_map] at hsl
            split at h
            · rename_i h0
              subst h0
              simp only [Option.some.injEq, Prod.mk.injEq] at h
              obtain ⟨rfl, rfl⟩ := h
              refine ⟨fun ι S w vargs hr hm hf => ?_, Grow.refl _⟩
              obtain ⟨h1, h2⟩ := hr
              match vargs, h1 with
              | [x], _ =>
                obtain ⟨b, o, c, a, rfl, _⟩ := rep_sl (h2 0 _ x rfl rfl)
                refine (AnyM.slices_Sort_int_none sortA (some a) c w).mono ?_
                rintro e w' ⟨rfl, rfl⟩
                exact ⟨_, ι, S, rfl, Post.val hm (.tup rfl (fun j c v hc => by simp at hc))⟩
            · rename_i h0
              split at h
              · rename_i h62
                simp only [Option.some.injEq, Prod.mk.injEq] at h
                obtain ⟨rfl, rfl⟩ := h
                refine ⟨fun ι S w vargs hr hm hf => ?_, ?_⟩
                · obtain ⟨h1, h2⟩ := hr
                  match vargs, h1 with
                  | [x], _ =>
                    obtain ⟨b, o, c, a, rfl, hid, hlc, -, ha, -⟩ := rep_sl (h2 0 _ x rfl rfl)
                    have hc0 : c ≠ 0 := Nat.ne_of_gt (Nat.lt_of_lt_of_le (Nat.pos_of_ne_zero h0) hlc)
                    have ha' := ha hc0
                    subst ha'
                    clear ha h2
                    obtain ⟨vs, el, hb, hlen, hrep, hone, hnS⟩ := box_cells hm hcs hid
                    -- the row's own values
                    have hsub : RepL ι S w (l.map aint) ((vs.toList.drop (o + off)).take len) := by
                      refine ⟨by simp; omega, fun j c v hc hv => hrep.2 (off + j) c v ?_ ?_⟩
                      · rw [seg_get hseg (by have := (List.getElem?_eq_some_iff.1 hc).1; simp at this; omega)]
                        exact hc
                      · have hj := (List.getElem?_eq_some_iff.1 hc).1
                        simp only [List.length_map] at hj
                        rw [List.getElem?_take, if_pos (by omega), List.getElem?_drop] at hv
                        rw [List.getElem?_take, if_pos (by omega), List.getElem?_drop, ← Nat.add_assoc]
                        exact hv
                    have hus := rep_ints hsub
                    have hval : ∀ j, j < l.length → vs[o + off + j]? = some (.int .i64 (l.getD j 0)) := by
                      intro j hj
                      have e := congrArg (·[j]?) hus
                      simp only [List.getElem?_take, List.getElem?_drop, List.getElem?_map] at e
                      rw [if_pos (by omega)] at e
                      simp only [Array.getElem?_toList] at e
                      rw [e]
                      simp [hj]
                    have hH : Holds (Value.int .i64) w b (o + off) l.toArray := by
                      intro j hj
                      simp only [List.size_toArray] at hj
                      refine ⟨?_, ?_⟩
                      · unfold World.cell?
                        simp only [hb]
                        rw [hval j hj]
                        simp [hj]
                      · unfold World.frozen?
                        simp only [hb]
                        simp
                    have hcon := AnyM.slices_Sort_int sortA b (o + off) c l w hH (lt_of_heap hb) (by omega)
                    rw [hsl.1] at hcon
                    refine hcon.mono ?_
                    rintro e w' ⟨rfl, n, os, rfl⟩
                    refine ⟨_, ι, S, rfl, ?_⟩
                    rw [putRow_ahead, putRow_setRow _ _ _ _ _ hb, mergeSort_eq]
                    refine Post.after ?_ (grow_step _ n os)
                    refine post_put hm (cells_spec hcs) hid hb (putCells_size _ _ _ _) ?_ ?_ ?_ (.inr trivial) (.tup rfl (fun j c v hc => by simp at hc))
                    · rw [putSeg_length (by simp [sortI_length]; omega), putCells_size]; exact hlen
                    · have hnew : RepL ι S w ((sortI l).map aint) ((sortI l).map (Value.int .i64)) := by
                        refine ⟨by simp, fun j c v hc hv => ?_⟩
                        simp only [List.getElem?_map, Option.map_eq_some_iff] at hc hv
                        obtain ⟨x, h1, rfl⟩ := hc
                        obtain ⟨y, h2, rfl⟩ := hv
                        rw [h1] at h2
                        cases h2
                        exact rep_int_mk .i64 x
                      have hP := hrep.putSeg hnew (off := off) (by simp [sortI_length]; omega) (by simpa using hlen)
                      rw [putSeg_length (by simp [sortI_length]; omega)]
                      have e : (putCells (Value.int .i64) (o + off) (sortI l).toArray vs).toList = vs.toList.take (o + off) ++ (sortI l).map (Value.int .i64) ++ vs.toList.drop (o + off + ((sortI l).map (Value.int .i64)).length) := by
                        rw [List.length_map]
                        exact putCells_list (Value.int .i64) (o + off) (sortI l) vs (by rw [sortI_length]; omega)
                      rw [e]
                      exact hP
                    · exact putSeg_one hone (one_all (all_one_ints _))
                · refine ⟨Nat.le_refl _, by simp only [Mem.put]; omega, fun i hi => ?_⟩
                  simp only [Mem.put, Tr.get_set]
                  by_cases e : i = id
                  · left; omega
                  · right; rw [if_neg e]
              · simp at h
          · simp at h
        · simp at h
      · simp at h
    · simp at h
  · simp at h
end Go.Proofs.YtmflheoafeenfaaGreat
namespace Go.Proofs.YtmflheoafeenfaaGreat
open Go.Am Go.Proofs
set_option maxRecDepth 100000
def EnvK (fl rw : List FuncId) : Env := { fns := fnsT, mode := fun f => if f == f_slices_Sort_int_int then .known else if fl.contains f then .iso false else if rw.contains f then .iso true else .open_, known := fun f args m => if f == f_slices_Sort_int_int then knSort args m else none }
theorem EnvK_ok (fl rw : List FuncId) : EnvOk Tryz.prog (EnvK fl rw) where
  orders := by kernel_rfl
  fns := fun f fn' h => by
    unfold EnvK fnsT at h
    simp only [Option.map_eq_some_iff] at h
    obtain ⟨p, hp, rfl⟩ := h
    have h1 := List.find?_some hp
    have h2 := List.mem_of_find?_eq_some hp
    simp only [beq_iff_eq] at h1
    subst h1
    exact tbl_ok p h2
  grow := fun f args m v m' h => by
    simp only [EnvK] at h
    split at h
    · exact (sort_sim h).2
    · simp at h
  known := fun f args m v m' h => by
    simp only [EnvK] at h
    split at h
    · rename_i hf
      rw [beq_iff_eq] at hf
      subst hf
      exact ⟨Tryz.f152, Tryz.func152, by kernel_rfl, by kernel_rfl, (sort_sim h).1⟩
    · simp at h
def mdFlatR : List FuncId := mdFlatO ++ [f_phasorref18_plain, f_phasorref18_within, f_phasorref18_same, f_phasorref18_list, f_phasorref06_Inverse, f_gate_Inverse, f_rewrite_partner, f_rewrite_undoes, f_gate_Compose, f_phasorref06_Compose, f_slices_Equal_complex128_complex128, f_phasorref06_Alike]
def mdRowsR : List FuncId := [f_phasorref08_Copy, f_phasorref18_use, f_phasorref18_Rules, f_rewrite_normal, f_gate_Matrix, f_phasorref06_Matrix, f_gate_times, f_phasorref06_Times, f_gate_Kinds]
def ER : Env := EnvK mdFlatR mdRowsR
theorem ER_ok : EnvOk Tryz.prog ER := EnvK_ok _ _
theorem aliveR_ok {L : Hp} : CallO ER f_phasorlaw18_alive [] L fun v L' => v = abool true ∧ L' = L := alive18_of rfl n_phasorlaw18_alive (by kernel_rfl)
theorem sort_seg {id off len : Nat} {cap : Option Nat} {cs : List AVal} {l : List Int} {L L' : Hp} (hs : seg cs off len = some (l.map aint)) (h0 : 0 < len) (hlt : len < 4611686018427387904) (hu : Upd id cs (putSeg cs off ((sortI l).map aint)) L L') :
    CallO ER f_slices_Sort_int_int [.sl id off len 1 cap] L fun v L1 => v = .tup [] ∧ L1 = L' := by
  refine callO_known rfl fun m ho => ?_
  have hc := ho.get hu.in_
  refine ⟨.tup [], m.put id (some (.cells (putSeg cs off ((sortI l).map aint)))), L', ?_, ho.upd hu, rfl, rfl⟩
  have hk : ∀ a m, ER.known f_slices_Sort_int_int a m = knSort a m := fun a m => by simp [ER, EnvK]
  rw [hk]
  simp only [knSort, if_true, hc, hs, intsOf_map, if_neg (show len ≠ 0 by omega), if_pos hlt]
end Go.Proofs.YtmflheoafeenfaaGreat
namespace Go.Proofs.YtmflheoafeenfaaGreat
open Go.Am
def compT : List (List Nat) := [[], [0, 1, 2, 3, 4, 5, 6, 7, 8, 9, 10], [0, 2, 1, 0, 0, 0, 0, 8, 7], [0, 3, 0, 1, 0, 0, 0, 0, 0, 10, 9], [0, 4, 0, 0, 1, 6, 5], [0, 5, 0, 0, 6, 4, 1], [0, 6, 0, 0, 5, 1, 4], [0, 7, 8, 0, 0, 0, 0, 2, 1], [0, 8, 7, 0, 0, 0, 0, 1, 2], [0, 9, 0, 10, 0, 0, 0, 0, 0, 3, 1], [0, 10, 0, 9, 0, 0, 0, 0, 0, 1, 3]]
/-- The kind that two are, one behind the other; 0: none. -/
def compG (a b : Int) : Int := (((compT.getD a.toNat []).getD b.toNat 0 : Nat) : Int)
def symG (k : Int) : Bool := decide (k = 13) || decide (k = 14) || decide (k = 15) || decide (k = 16) || decide (k = 17) || decide (k = 19)
def withinB (a b : List Int) : Bool := a.all (fun x => b.contains x) && decide (a.length = b.length)
/-- The same qubits, asq far asq the kind minds: the document's way. -/
def sameQ (k : Int) (a b : List Int) : Bool :=
  if a.length ≠ b.length then false
  else if symG k = true then withinB a b
  else if k = 18 then decide (a.getD 2 0 = b.getD 2 0) && withinB (a.take 2) (b.take 2)
  else if k = 20 then decide (a.getD 0 0 = b.getD 0 0) && withinB (a.drop 1) (b.drop 1)
  else decide (a = b)
def insQ (x : Int) : List Int → List Int
  | [] => [x]
  | y :: r => if x ≤ y then x :: y :: r else y :: insQ x r
def sortQ : List Int → List Int
  | [] => []
  | x :: r => insQ x (sortQ r)
/-- A gate's qubits, those whose order it does not mind rising. -/
def normQ (k : Int) (q : List Int) : List Int := if symG k = true then sortQ q else if k = 18 then sortQ (q.take 2) ++ q.drop 2 else if k = 20 then q.take 1 ++ sortQ (q.drop 1) else q
theorem insQ_perm (x : Int) : ∀ l, (insQ x l).Perm (x :: l)
  | [] => List.Perm.refl _
  | y :: r => by
    unfold insQ
    split
    · exact List.Perm.refl _
    · exact ((insQ_perm x r).cons y).trans (List.Perm.swap x y r)
theorem sortQ_perm : ∀ l, (sortQ l).Perm l
  | [] => List.Perm.refl _
  | x :: r => (insQ_perm x _).trans ((sortQ_perm r).cons x)
theorem insQ_sorted (x : Int) : ∀ l : List Int, l.Pairwise (· ≤ ·) → (insQ x l).Pairwise (· ≤ ·)
  | [], _ => by simp [insQ]
  | y :: r, h => by
    unfold insQ
    rw [List.pairwise_cons] at h
    split
    · rename_i hxy
      refine List.pairwise_cons.2 ⟨fun z hz => ?_, List.pairwise_cons.2 h⟩
      rcases List.mem_cons.1 hz with rfl | hz
      · exact hxy
      · have := h.1 z hz; omega
    · rename_i hxy
      refine List.pairwise_cons.2 ⟨fun z hz => ?_, insQ_sorted x r h.2⟩
      rcases List.mem_cons.1 ((insQ_perm x r).mem_iff.1 hz) with rfl | hz
      · omega
      · exact h.1 z hz
theorem sortQ_sorted : ∀ l : List Int, (sortQ l).Pairwise (· ≤ ·)
  | [] => by simp [sortQ]
  | x :: r => insQ_sorted x _ (sortQ_sorted r)
theorem sortedQ_eq : ∀ {a b : List Int}, a.Pairwise (· ≤ ·) → b.Pairwise (· ≤ ·) → a.Perm b → a = b
  | [], b, _, _, h => (List.Perm.nil_eq h)
  | x :: a, [], _, _, h => by have := h.length_eq; simp at this
  | x :: a, y :: b, ha, hb, h => by
    rw [List.pairwise_cons] at ha hb
    have e : x = y := by
      have h1 : x ∈ y :: b := h.mem_iff.1 (by simp)
      have h2 : y ∈ x :: a := h.mem_iff.2 (by simp)
      rcases List.mem_cons.1 h1 with h1 | h1
      · exact h1
      · rcases List.mem_cons.1 h2 with h2 | h2
        · exact h2.symm
        · have := ha.1 y h2
          have := hb.1 x h1
          omega
    subst e
    rw [sortedQ_eq ha.2 hb.2 (List.Perm.cons_inv h)]
theorem sortQ_eq {a b : List Int} : sortQ a = sortQ b ↔ a.Perm b := by
  constructor
  · intro h
    exact (sortQ_perm a).symm.trans (h ▸ sortQ_perm b)
  · intro h
    exact sortedQ_eq (sortQ_sorted a) (sortQ_sorted b) (((sortQ_perm a).trans h).trans (sortQ_perm b).symm)
theorem perm_of_sub : ∀ {a b : List Int}, a.Nodup → (∀ x ∈ a, x ∈ b) → a.length = b.length → a.Perm b
  | [], b, _, _, h => by
    have : b = [] := List.eq_nil_of_length_eq_zero (by simpa using h.symm)
    rw [this]
  | x :: a, b, hn, hs, hl => by
    have hx := hs x (by simp)
    rw [List.nodup_cons] at hn
    have hb := List.perm_cons_erase hx
    refine List.Perm.trans ?_ hb.symm
    refine List.Perm.cons x (perm_of_sub hn.2 (fun y hy => ?_) ?_)
    · have hne : y ≠ x := fun e => hn.1 (e ▸ hy)
      exact (List.mem_erase_of_ne hne).2 (hs y (by simp [hy]))
    · rw [List.length_erase_of_mem hx]
      simp only [List.length_cons] at hl
      omega
theorem within_iff {a b : List Int} (hn : a.Nodup) (hl : a.length = b.length) : withinB a b = true ↔ sortQ a = sortQ b := by
  rw [sortQ_eq]
  unfold withinB
  simp only [hl, decide_true, Bool.and_true, List.all_eq_true, List.contains_iff_mem]
  constructor
  · intro h; exact perm_of_sub hn h hl
  · intro h x hx; exact h.mem_iff.1 hx
theorem app_inj {a b c d : List Int} (h : a.length = c.length) : a ++ b = c ++ d ↔ a = c ∧ b = d := by
  constructor
  · intro e
    exact List.append_inj e h
  · rintro ⟨rfl, rfl⟩; rfl
theorem sortQ_len (l : List Int) : (sortQ l).length = l.length := (sortQ_perm l).length_eq
theorem sym_inv {k : Int} : symG (inverse k) = symG k := by
  unfold symG inverse
  by_cases h0 : k < 1 ∨ 20 < k
  · rw [if_pos h0]
    rw [Bool.eq_iff_iff]
    simp only [Bool.or_eq_true, decide_eq_true_eq]
    omega
  · rw [if_neg h0, Bool.eq_iff_iff]
    simp only [Bool.or_eq_true, decide_eq_true_eq]
    split <;> (try split) <;> omega
theorem norm_inv {k : Int} (q : List Int) : normQ (inverse k) q = normQ k q := by
  unfold normQ
  rw [sym_inv]
  have h18 : inverse k = 18 ↔ k = 18 := by unfold inverse; split <;> (try split) <;> (try split) <;> omega
  have h20 : inverse k = 20 ↔ k = 20 := by unfold inverse; split <;> (try split) <;> (try split) <;> omega
  simp only [h18, h20]
/-- The two ways come to the same. -/
theorem same_norm {k : Int} {a b : List Int} (hn : a.Nodup) (h18 : k = 18 → a.length = 3) (h20 : k = 20 → a.length = 3) : (sameQ k a b = true ↔ normQ (inverse k) a = normQ k b) ∨ a.length ≠ b.length := by
  by_cases hl : a.length = b.length
  · left
    rw [norm_inv]
    unfold sameQ normQ
    rw [if_neg (by simp [hl])]
    by_cases hs : symG k = true
    · rw [if_pos hs, if_pos hs, if_pos hs]
      exact within_iff hn hl
    · rw [if_neg hs, if_neg hs, if_neg hs]
      by_cases e18 : k = 18
      · rw [if_pos e18, if_pos e18, if_pos e18, app_inj (by rw [sortQ_len, sortQ_len]; simp [hl])]
        have ha := h18 e18
        have hn2 : (a.take 2).Nodup := hn.sublist (List.take_sublist 2 a)
        rw [Bool.and_eq_true, within_iff hn2 (by simp [hl]), decide_eq_true_eq]
        have : a.drop 2 = b.drop 2 ↔ a.getD 2 0 = b.getD 2 0 := by
          match a, b, ha, hl with
          | [a0, a1, a2], [b0, b1, b2], _, _ => simp
        rw [this]
        exact And.comm
      · rw [if_neg e18, if_neg e18, if_neg e18]
        by_cases e20 : k = 20
        · rw [if_pos e20, if_pos e20, if_pos e20, app_inj (by simp [hl])]
          have ha := h20 e20
          have hn2 : (a.drop 1).Nodup := hn.sublist (List.drop_sublist 1 a)
          rw [Bool.and_eq_true, within_iff hn2 (by simp [hl]), decide_eq_true_eq]
          have : a.take 1 = b.take 1 ↔ a.getD 0 0 = b.getD 0 0 := by
            match a, b, ha, hl with
            | [a0, a1, a2], [b0, b1, b2], _, _ => simp
          rw [this]
        · rw [if_neg e20, if_neg e20, if_neg e20]
          simp
  · exact .inr hl
theorem Qs_nodup {n : Int} {l : List Int} (h : Qs n l) : l.Nodup := by
  rw [List.nodup_iff_pairwise_ne, List.pairwise_iff_getElem]
  intro i j hi hj hij
  have h1 := (h j hj).2.2 i hij
  simpa [hi, hj] using h1
/-! One rule -/
def undoB (p o : OpD) : Bool := decide (p.gate = inverse o.gate) && sameQ o.gate p.qs o.qs
def useAt (cn mg : Bool) (l : List OpD) (j : Nat) : Option (List OpD) :=
  if plainB (gO l j) = false then none
  else if cn = true ∧ (gO l j).gate = 1 then some (l.eraseIdx j)
  else if partI l j < 0 ∨ plainB (gO l (partI l j).toNat) = false then none
  else if cn = true ∧ undoB (gO l (partI l j).toNat) (gO l j) = true then some ((l.eraseIdx j).eraseIdx (partI l j).toNat)
  else if mg = true ∧ compG (gO l (partI l j).toNat).gate (gO l j).gate ≠ 0 ∧ (gO l (partI l j).toNat).qs = (gO l j).qs then some ((l.eraseIdx j).set (partI l j).toNat { gO l (partI l j).toNat with gate := compG (gO l (partI l j).toNat).gate (gO l j).gate })
  else none
def useFrom (cn mg : Bool) (l : List OpD) : Nat → Nat → Option (List OpD)
  | 0, _ => none
  | d + 1, j => match useAt cn mg l j with
    | some l' => some l'
    | none => useFrom cn mg l d (j + 1)
def rulesF (cn mg : Bool) : Nat → List OpD → List OpD
  | 0, l => l
  | n + 1, l => match useFrom cn mg l l.length 0 with
    | some l' => rulesF cn mg n l'
    | none => l
def rulesL (cn mg : Bool) (l : List OpD) : List OpD := rulesF cn mg (l.length + 1) l
theorem partI_lt (l : List OpD) (j : Nat) : partI l j < j ∧ -1 ≤ partI l j := partTo_lt
theorem useAt_len {cn mg : Bool} {l l' : List OpD} {j : Nat} (hj : j < l.length) (h : useAt cn mg l j = some l') : l'.length < l.length := by
  have hp := partI_lt l j
  unfold useAt at h
  split at h
  · cases h
  split at h
  · cases h
    rw [List.length_eraseIdx, if_pos hj]
    omega
  split at h
  · cases h
  split at h
  · cases h
    rw [List.length_eraseIdx, List.length_eraseIdx, if_pos hj]
    split <;> omega
  split at h
  · cases h
    rw [List.length_set, List.length_eraseIdx, if_pos hj]
    omega
  · cases h
theorem useFrom_len {cn mg : Bool} {l l' : List OpD} : ∀ (d j : Nat), d + j ≤ l.length → useFrom cn mg l d j = some l' → l'.length < l.length
  | 0, j, hd, h => by cases h
  | d + 1, j, hd, h => by
    unfold useFrom at h
    split at h
    · rename_i l1 h1
      cases h
      exact useAt_len (by omega) h1
    · exact useFrom_len d (j + 1) (by omega) h
theorem compT_in : (List.range 11).all (fun i => (List.range 11).all fun j => decide ((compT.getD i []).getD j 0 ≠ 0 → 1 ≤ i ∧ 1 ≤ j ∧ (compT.getD i []).getD j 0 ≤ 10)) = true := by decide
theorem compT_out {i j : Nat} (h : 11 ≤ i ∨ 11 ≤ j) : (compT.getD i []).getD j 0 = 0 := by
  rcases h with h | h
  · have : compT.getD i [] = [] := by rw [List.getD_eq_getElem?_getD, List.getElem?_eq_none (by simp [compT]; omega)]; rfl
    rw [this]
    rfl
  · have hl : ∀ r ∈ compT, r.length ≤ 11 := by decide
    have : (compT.getD i []).length ≤ 11 := by
      by_cases hi : i < compT.length
      · have := hl (compT[i]) (List.getElem_mem hi)
        rw [List.getD_eq_getElem?_getD, List.getElem?_eq_getElem hi]
        exact this
      · rw [List.getD_eq_getElem?_getD, List.getElem?_eq_none (by omega)]
        simp
    rw [List.getD_eq_getElem?_getD, List.getElem?_eq_none (by omega)]
    rfl
theorem compG_ar {a b : Int} (h : compG a b ≠ 0) : arity (compG a b) = 1 ∧ arity a = 1 ∧ arity b = 1 := by
  unfold compG at *
  have h0 : (compT.getD a.toNat []).getD b.toNat 0 ≠ 0 := by omega
  have hi : a.toNat < 11 := by
    rcases Nat.lt_or_ge a.toNat 11 with h1 | h1
    · exact h1
    · exact absurd (compT_out (.inl h1)) h0
  have hj : b.toNat < 11 := by
    rcases Nat.lt_or_ge b.toNat 11 with h1 | h1
    · exact h1
    · exact absurd (compT_out (.inr h1)) h0
  have h1 := List.all_eq_true.1 (List.all_eq_true.1 compT_in a.toNat (List.mem_range.2 hi)) b.toNat (List.mem_range.2 hj)
  obtain ⟨h2, h3, h4⟩ := (of_decide_eq_true h1) h0
  generalize (compT.getD a.toNat []).getD b.toNat 0 = v at *
  unfold arity
  refine ⟨?_, ?_, ?_⟩
  all_goals (rw [if_neg (by omega), if_pos (by omega)])
/-- What may be stays so. -/
def OkL (n b : Int) (l : List OpD) : Prop := ∀ o ∈ l, OpOk o n b
theorem gO_mem {l : List OpD} {j : Nat} (h : j < l.length) : gO l j ∈ l := by simp [gO, h]
theorem OkL.erase {n b : Int} {l : List OpD} (h : OkL n b l) (j : Nat) : OkL n b (l.eraseIdx j) := fun o ho => h o (List.mem_of_mem_eraseIdx ho)
theorem useAt_ok {cn mg : Bool} {n b : Int} {l l' : List OpD} {j : Nat} (hj : j < l.length) (ho : OkL n b l) (h : useAt cn mg l j = some l') : OkL n b l' := by
  have hp := partI_lt l j
  unfold useAt at h
  split at h
  · cases h
  split at h
  · cases h
    exact ho.erase j
  split at h
  · cases h
  rename_i hpl
  split at h
  · cases h
    exact (ho.erase j).erase _
  split at h
  · rename_i hc
    cases h
    intro o hm
    rcases List.mem_or_eq_of_mem_set hm with hm | rfl
    · exact ho.erase j o hm
    · have hi : (partI l j).toNat < l.length := by omega
      have hpo := ho _ (gO_mem hi)
      obtain ⟨c1, c2, c3⟩ := compG_ar hc.2.1
      have hk : (gO l (partI l j).toNat).kind = 1 := by
        have : plainB (gO l (partI l j).toNat) = true := by
          cases h1 : plainB (gO l (partI l j).toNat) with
          | true => rfl
          | false => exact absurd (.inr h1) hpl
        simp only [plainB, Bool.and_eq_true, decide_eq_true_eq] at this
        exact this.1
      generalize gO l (partI l j).toNat = p at *
      rcases hpo with ⟨h1, h2, h3, h4, h5, h6⟩ | h1 | h1 | h1
      · exact .inl ⟨h1, by simp only [c1]; omega, by simp only [c1]; rw [h3, c2], h4, h5, h6⟩
      · omega
      · omega
      · omega
  · cases h
end Go.Proofs.YtmflheoafeenfaaGreat
