/- The abstract machine, part 20: what a row reads from a world, as values without addresses. -/
import Derived.Test.YtfaphhcloanhnaaAmCall
import Derived.ChangeStays
import Derived.ChangeArms
set_option linter.unusedSimpArgs false
set_option linter.unusedVariables false
namespace Go.Am

section
variable (P : Program) {H : Type}

/-- What was read, of a type: its cells. -/
def encD : Nat → TypeId → DataW H → List AVal
  | 0, _, _ => []
  | d + 1, t, x => match P.underlying t, x with
    | some .bool, .lit (.bool b) => [abool b]
    | some (.int _), .lit (.int k n) => [.sc (.int k n)]
    | some .string, .lit (.string l) => [.sc (.string ⟨l.toArray⟩)]
    | some (.pointer _), .nil => [.sc (.pointer none)]
    | some (.pointer e), .ptr y => [.ro (encD d e y)]
    | some (.slice _), .nil => [anil]
    | some (.slice e), .slice es sp => [.rs (es.flatMap (encD d e)) es.length (some (es.length + sp.length))]
    | some (.struct fs), .agg ys => (List.zipWith (fun f y => encD d (Field.type f) y) fs.toList ys).flatten
    | some (.array _ e), .agg ys => ys.flatMap (encD d e)
    | _, _ => []

/-- Fields, one behind the other without a gap. -/
def tightFs (P : Program) : List Field → Nat → Bool
  | [], _ => true
  | f :: r, off => f.offset == off && tightFs P r (off + P.cellsOf f.type)
/-- Types whose readings these are. -/
def plainT : Nat → TypeId → Bool
  | 0, _ => false
  | d + 1, t => match P.underlying t with
    | some .bool => true
    | some (.int _) => true
    | some .string => true
    | some (.pointer e) => plainT d e
    | some (.slice e) => plainT d e && decide (0 < P.cellsOf e)
    | some (.struct fs) => fs.toList.all (fun f => plainT d f.type) && tightFs P fs.toList 0 && P.cellsOf t == (fs.toList.map fun f => P.cellsOf f.type).sum
    | some (.array n e) => plainT d e && P.cellsOf t == n * P.cellsOf e
    | _ => false
end

section
variable {P : Program} {H : Type} {enc : TypeId × Value → H} {w : World} {ι : Inj} {S : Nat → Prop}

/-- Cells that stand in a row, each known. -/
theorem repL_flat {α : Type} (f : α → List AVal) (z : Nat) : ∀ (l : List α) (cs : List Value), cs.length = l.length * z → (∀ (i : Nat) a, l[i]? = some a → RepL ι S w (f a) ((cs.drop (i * z)).take z)) → RepL ι S w (l.flatMap f) cs
  | [], cs, hl, h => by
    have : cs = [] := List.length_eq_zero_iff.1 (by simpa using hl)
    subst this
    exact ⟨rfl, fun j c v hc => by simp at hc⟩
  | a :: r, cs, hl, h => by
    have h0 := h 0 a rfl
    rw [Nat.zero_mul, List.drop_zero] at h0
    have hr := repL_flat f z r (cs.drop z) (by simp at hl ⊢; rw [hl, Nat.succ_mul]; omega) (fun i b hb => by
      have := h (i + 1) b (by simpa using hb)
      rw [List.drop_drop]
      rw [Nat.succ_mul] at this
      rw [Nat.add_comm z (i * z)]
      exact this)
    have := h0.append hr
    rw [List.take_append_drop] at this
    simpa using this

theorem cell_spot {a : Addr} {v : Value} (h : w.cell? a = some v) : a.spot = none ∧ a.block < w.heap.size := by
  unfold World.cell? at h
  cases hs : a.spot with
  | some x =>
    simp only [hs, Option.isSome_some, if_true] at h
    split at h <;> simp at h
  | none =>
    simp only [hs, Option.isSome_none, Bool.false_eq_true, if_false] at h
    refine ⟨rfl, ?_⟩
    cases hh : w.heap[a.block]? with
    | none => rw [hh] at h; simp at h
    | some o => exact (Array.getElem?_eq_some_iff.1 hh).1

theorem cells?_get {a : Addr} {n : Nat} {cs : List Value} (h : w.cells? 0 a n = some cs) : cs.length = n ∧ ∀ i, i < n → ∃ v, cs[i]? = some v ∧ w.cell? (a.add i) = some v := by
  unfold World.cells? at h
  rw [if_pos (Nat.zero_le _)] at h
  have h1 := mapM_some_length h
  refine ⟨by simpa using h1, fun i hi => ?_⟩
  have := mapM_some_get h i i (by simp [hi])
  have hl : i < cs.length := by simp at h1; omega
  exact ⟨cs[i], by simp [hl], by rw [this]; simp [hl]⟩

/-- A row of elements that stays. -/
theorem row_rep {a : Addr} {z k : Nat} {as : List AVal} {us : List (List Value)} (hus : us.length = k) (hz : ∀ u ∈ us, u.length = z) (hcell : ∀ i u, us[i]? = some u → w.cells? 0 (a.add (i * z)) z = some u)
    (hrep : RepL ι S w as us.flatten) (hS : ∀ b, b < w.heap.size → S b) :
    ∃ vs : Nat → Value, (0 < as.length → a.spot = none ∧ S a.block) ∧ (∀ j, j < as.length → w.cell? ⟨a.block, a.off + j, none⟩ = some (vs j)) ∧ (∀ (j : Nat) c, as[j]? = some c → Rep ι S w c (vs j)) := by
  have hlen : us.flatten.length = k * z := by
    clear hcell hrep
    induction us generalizing k with
    | nil => simp at hus; subst hus; simp
    | cons u r ih =>
      simp at hus
      have := ih (k := r.length) rfl (fun x hx => hz x (by simp [hx]))
      simp only [List.flatten_cons, List.length_append, this, hz u (by simp)]
      rw [← hus, Nat.succ_mul]; omega
  have hsp : 0 < k * z → a.spot = none ∧ a.block < w.heap.size := by
    intro hp
    have hz0 : 0 < z := Nat.pos_of_mul_pos_left hp
    have hk0 : 0 < us.length := by rw [hus]; exact Nat.pos_of_mul_pos_right hp
    obtain ⟨k1, k2⟩ := cells?_get (hcell 0 us[0] (by simp [hk0]))
    obtain ⟨v, _, q2⟩ := k2 0 hz0
    have e : (a.add (0 * z)).add 0 = a := by simp [Addr.add]
    rw [e] at q2
    exact cell_spot q2
  have hflat : ∀ (us : List (List Value)) (j : Nat) (hz : ∀ u ∈ us, u.length = z) (hz0 : 0 < z) (hi : j / z < us.length), us.flatten[j]? = us[j / z][j % z]? := by
    intro us
    induction us with
    | nil => intro j hz hz0 hi; simp at hi
    | cons u r ih =>
      intro j hz hz0 hi
      have hu := hz u (by simp)
      rw [List.flatten_cons]
      by_cases hlt : j < z
      · rw [List.getElem?_append_left (by omega)]
        simp [Nat.div_eq_of_lt hlt, Nat.mod_eq_of_lt hlt]
      · rw [List.getElem?_append_right (by omega), hu]
        have hj : j = (j - z) + z := by omega
        have hd : j / z = (j - z) / z + 1 := by
          conv => lhs; rw [hj]
          exact Nat.add_div_right _ hz0
        have hm : j % z = (j - z) % z := by
          conv => lhs; rw [hj]
          exact Nat.add_mod_right _ _
        have hr : (j - z) / z < r.length := by simp [hd] at hi; exact hi
        rw [ih (j - z) (fun x hx => hz x (by simp [hx])) hz0 hr, hm]
        simp only [hd, List.getElem_cons_succ]
  have hget : ∀ j, j < k * z → ∃ v, us.flatten[j]? = some v ∧ w.cell? ⟨a.block, a.off + j, none⟩ = some v := by
    intro j hj
    have hp : 0 < k * z := by omega
    have hz0 : 0 < z := Nat.pos_of_mul_pos_left hp
    have hi : j / z < us.length := by rw [hus]; exact Nat.div_lt_of_lt_mul (by rw [Nat.mul_comm]; exact hj)
    obtain ⟨k1, k2⟩ := cells?_get (hcell (j / z) us[j / z] (by simp [hi]))
    obtain ⟨v, q1, q2⟩ := k2 (j % z) (Nat.mod_lt _ hz0)
    refine ⟨v, (hflat us j hz hz0 hi).trans q1, ?_⟩
    rw [addr_eta a (hsp hp).1, addr_add_mk, addr_add_mk] at q2
    rw [Nat.add_assoc, Nat.mul_comm, Nat.div_add_mod] at q2
    exact q2
  refine ⟨fun j => us.flatten.getD j default, fun hp => ?_, fun j hj => ?_, fun j c hc => ?_⟩
  · have : 0 < k * z := by rw [← hlen, ← hrep.1]; exact hp
    exact ⟨(hsp this).1, hS _ (hsp this).2⟩
  · have hj' : j < k * z := by rw [← hlen, ← hrep.1]; exact hj
    obtain ⟨v, h1, h2⟩ := hget j hj'
    rw [h2]
    simp [h1]
  · have hj' : j < k * z := by rw [← hlen, ← hrep.1]; exact (List.getElem?_eq_some_iff.1 hc).1
    obtain ⟨v, h1, h2⟩ := hget j hj'
    refine hrep.2 j c _ hc ?_
    rw [h1]
    simp [h1]

theorem repL_flatten {α : Type} (f : α → List AVal) : ∀ (l : List α) (us : List (List Value)), l.length = us.length → (∀ (i : Nat) a u, l[i]? = some a → us[i]? = some u → RepL ι S w (f a) u) → RepL ι S w (l.flatMap f) us.flatten
  | [], [], hl, h => ⟨rfl, fun j c v hc => by simp at hc⟩
  | [], _ :: _, hl, h => by simp at hl
  | _ :: _, [], hl, h => by simp at hl
  | a :: r, u :: us, hl, h => by
    have h0 := h 0 a u rfl rfl
    have hr := repL_flatten f r us (by simpa using hl) fun i b v hb hv => h (i + 1) b v (by simpa using hb) (by simpa using hv)
    simpa using h0.append hr

theorem repL_fields (f : Field → DataW H → List AVal) : ∀ (fs : List Field) (ys : List (DataW H)) (off : Nat) (cs : List Value), fs.length = ys.length → tightFs P fs off = true → off + (fs.map fun f => P.cellsOf f.type).sum ≤ cs.length →
    (∀ (i : Nat) g y, fs[i]? = some g → ys[i]? = some y → RepL ι S w (f g y) ((cs.drop g.offset).take (P.cellsOf g.type))) →
    RepL ι S w (List.zipWith f fs ys).flatten ((cs.drop off).take (fs.map fun f => P.cellsOf f.type).sum)
  | [], [], off, cs, hl, ht, hle, h => by simp; exact ⟨rfl, fun j c v hc => by simp at hc⟩
  | [], _ :: _, off, cs, hl, ht, hle, h => by simp at hl
  | _ :: _, [], off, cs, hl, ht, hle, h => by simp at hl
  | g :: fs, y :: ys, off, cs, hl, ht, hle, h => by
    simp only [tightFs, Bool.and_eq_true, beq_iff_eq] at ht
    simp only [List.map_cons, List.sum_cons] at hle ⊢
    have h0 := h 0 g y rfl rfl
    rw [ht.1] at h0
    have hr := repL_fields f fs ys (off + P.cellsOf g.type) cs (by simpa using hl) ht.2 (by omega) fun i g' y' hg hy => h (i + 1) g' y' (by simpa using hg) (by simpa using hy)
    have := h0.append hr
    rw [← List.drop_drop, List.take_add.symm] at this
    simpa using this

theorem trod_array {e : TypeId} {k fuel : Nat} {base : Nat} {spare : Nat → Bool} {held : Bool} {t : TypeId} {cs : List Value} {x : DataW H × List MemPlace} (ht : P.underlying t = some (.array k e)) (h : DataW.trod enc P w base spare held fuel t cs = some x) :
    ∃ (xs : List (DataW H × List MemPlace)) (n : Nat), fuel = n + 1 ∧ x = (.agg (xs.map (·.1)), xs.flatMap (·.2)) ∧ cs.length = P.cellsOf t ∧ xs.length = k ∧
      ∀ i, i < k → DataW.trod enc P w base spare held n e ((cs.drop (i * P.cellsOf e)).take (P.cellsOf e)) = xs[i]? := by
  cases fuel with
  | zero => simp [DataW.trod] at h
  | succ n =>
    unfold DataW.trod at h
    rw [ht] at h
    split at h <;> simp_all
    obtain ⟨hl, xs, hp, hd⟩ := h
    exact ⟨xs, hd.symm, by simpa using mapM_some_length hp, fun i hi => by simpa using mapM_some_get hp i i (by simp [hi])⟩

theorem trod_rep (hS : ∀ b, b < w.heap.size → S b) {held : Bool} : ∀ (d n : Nat) (t : TypeId) (cs : List Value) (x : DataW H × List MemPlace), plainT P d t = true → DataW.trod enc P w 0 (fun _ => true) held n t cs = some x →
    RepL ι S w (encD P d t x.1) cs ∧ ∀ a ∈ encD P d t x.1, a.one = true
  | 0, n, t, cs, x, hp, h => by simp [plainT] at hp
  | d + 1, n, t, cs, x, hp, h => by
    have one : ∀ {a : AVal} {v : Value}, Rep ι S w a v → RepL ι S w [a] [v] := fun hr => ⟨rfl, fun j c u hc hu => by
      cases j with
      | zero => simp at hc hu; subst hc hu; exact hr
      | succ j => simp at hc⟩
    unfold plainT at hp
    split at hp
    · rename_i ht
      obtain ⟨b, rfl, rfl⟩ := DataW.trod_bool ht h
      simp only [encD, ht]
      exact ⟨one (.sc rfl), by simp [abool, AVal.one]⟩
    · rename_i k ht
      obtain ⟨b, rfl, rfl, _⟩ := DataW.trod_int ht h
      simp only [encD, ht]
      exact ⟨one (.sc rfl), by simp [AVal.one]⟩
    · rename_i ht
      obtain ⟨b, rfl, rfl, _⟩ := DataW.trod_string ht h
      simp only [encD, ht]
      exact ⟨one (.sc rfl), by simp [AVal.one]⟩
    · rename_i e ht
      rcases DataW.trod_pointer ht h with ⟨rfl, rfl⟩ | ⟨a, cs', y, m, rfl, rfl, rfl, hc, hy⟩
      · simp only [encD, ht]
        exact ⟨one (.sc rfl), by simp [AVal.one]⟩
      · simp only [encD, ht]
        obtain ⟨r1, r2⟩ := trod_rep hS d m e cs' y hp hy
        obtain ⟨c1, c2⟩ := cells?_get hc
        obtain ⟨vs, q1, q2, q3⟩ := row_rep (a := a) (z := P.cellsOf e) (k := 1) (as := encD P d e y.1) (us := [cs']) rfl (fun u hu => by simp at hu; subst hu; exact c1) (fun i u hu => by
          cases i with
          | zero => simp at hu; subst hu; simpa [Addr.add] using hc
          | succ i => simp at hu) (by simpa using r1) hS
        exact ⟨one (.ro vs q1 q2 q3 r2), by simp [AVal.one]⟩
    · rename_i e ht
      simp only [Bool.and_eq_true] at hp
      replace hp := hp.1
      rcases DataW.trod_slice ht h with ⟨rfl, rfl⟩ | ⟨a, len, cap, elems, rest, m, rfl, rfl, rfl, _, hlc, _, hel, hE, hR, _⟩
      · simp only [encD, ht]
        exact ⟨one (.sc rfl), by simp [AVal.one, anil]⟩
      · obtain ⟨hrl, hR⟩ := hR rfl
        simp only [encD, ht, List.length_map]
        have hall : ∀ i (y : DataW H × List MemPlace), (elems ++ rest)[i]? = some y → ∃ u, w.cells? 0 (a.add (i * P.cellsOf e)) (P.cellsOf e) = some u ∧ DataW.trod enc P w 0 (fun _ => true) held m e u = some y := by
          intro i y hi
          by_cases hlt : i < len
          · rw [List.getElem?_append_left (by omega)] at hi
            have := hE i hlt
            rw [hi, Option.bind_eq_some_iff] at this
            exact this
          · rw [List.getElem?_append_right (by omega), hel] at hi
            have hj : i - len < cap - len := by have := (List.getElem?_eq_some_iff.1 hi).1; omega
            have := hR (i - len) hj
            rw [hi, Option.bind_eq_some_iff] at this
            rw [show len + (i - len) = i by omega] at this
            exact this
        have hlen : (elems ++ rest).length = cap := by simp; omega
        have hus : ∀ i u, ((List.range cap).map fun i => (w.cells? 0 (a.add (i * P.cellsOf e)) (P.cellsOf e)).getD [])[i]? = some u → i < cap ∧ w.cells? 0 (a.add (i * P.cellsOf e)) (P.cellsOf e) = some u := by
          intro i u hu
          have hi : i < cap := by have := (List.getElem?_eq_some_iff.1 hu).1; simpa using this
          obtain ⟨u', k1, _⟩ := hall i (elems ++ rest)[i] (by simp [hlen, hi])
          simp [hi, k1] at hu
          subst hu
          exact ⟨hi, k1⟩
        obtain ⟨vs, q1, q2, q3⟩ := row_rep (ι := ι) (a := a) (z := P.cellsOf e) (k := cap) (as := (elems ++ rest).flatMap fun y => encD P d e y.1) (us := (List.range cap).map fun i => (w.cells? 0 (a.add (i * P.cellsOf e)) (P.cellsOf e)).getD []) (by simp)
          (fun u hu => by
            obtain ⟨i, hi⟩ := List.getElem?_of_mem hu
            exact (cells?_get (hus i u hi).2).1) (fun i u hu => (hus i u hu).2)
          (repL_flatten _ _ _ (by rw [hlen]; simp) fun i y u hy hu => by
            obtain ⟨u', k1, k2⟩ := hall i y hy
            have := (hus i u hu).2
            rw [k1] at this
            cases this
            exact (trod_rep hS d m e _ y hp k2).1) hS
        have ef : (elems.map (·.1)).flatMap (encD P d e) = elems.flatMap fun y => encD P d e y.1 := by
          rw [List.flatMap_map]
        rw [ef]
        rw [List.flatMap_append] at q1 q2 q3
        replace q1 : 0 < (elems.flatMap fun y => encD P d e y.1).length → a.spot = none ∧ S a.block := fun h => q1 (by rw [List.length_append]; omega)
        replace q2 := fun j (h : j < (elems.flatMap fun y => encD P d e y.1).length) => q2 j (by rw [List.length_append]; omega)
        replace q3 : ∀ (j : Nat) c, (elems.flatMap fun y => encD P d e y.1)[j]? = some c → Rep ι S w c (vs j) := fun j c h => q3 j c (by rw [List.getElem?_append_left (List.getElem?_eq_some_iff.1 h).1]; exact h)
        have hcap : elems.length + rest.length = cap := by simpa using hlen
        rw [hcap, hel]
        refine ⟨one (.rs vs hlc (fun k hk => by simpa using hk) q1 q2 q3 fun c hc => ?_), by simp [AVal.one]⟩
        obtain ⟨y, hy, hc⟩ := List.mem_flatMap.1 hc
        obtain ⟨i, hi⟩ := List.getElem?_of_mem hy
        obtain ⟨u', k1, k2⟩ := hall i y (by rw [List.getElem?_append_left (List.getElem?_eq_some_iff.1 hi).1]; exact hi)
        exact (trod_rep hS d m e _ y hp k2).2 c hc
    · rename_i fs ht
      simp only [Bool.and_eq_true, beq_iff_eq] at hp
      obtain ⟨⟨hp1, hp2⟩, hp3⟩ := hp
      obtain ⟨xs, m, rfl, rfl, hl, hxl, hx⟩ := DataW.trod_struct ht h
      simp only [encD, ht]
      have hfx : ∀ (i : Nat) g y, fs.toList[i]? = some g → (xs.map (·.1))[i]? = some y → RepL ι S w (encD P d g.type y) ((cs.drop g.offset).take (P.cellsOf g.type)) ∧ ∀ a ∈ encD P d g.type y, a.one = true := by
        intro i g y hg hy
        have := hx i g (by simpa using hg)
        simp only [List.getElem?_map, Option.map_eq_some_iff] at hy
        obtain ⟨z, hz, rfl⟩ := hy
        rw [hz] at this
        exact trod_rep hS d m g.type _ z (List.all_eq_true.1 hp1 g (List.mem_of_getElem? hg)) this
      refine ⟨?_, fun a ha => ?_⟩
      · have := repL_fields (P := P) (fun g y => encD P d g.type y) fs.toList (xs.map (·.1)) 0 cs (by simp [hxl]) hp2 (by rw [hl, hp3]; omega) (fun i g y hg hy => (hfx i g y hg hy).1)
        rw [← hp3, ← hl] at this
        simpa using this
      · obtain ⟨l, hl', ha⟩ := List.mem_flatten.1 ha
        obtain ⟨i, hi⟩ := List.getElem?_of_mem hl'
        rw [List.getElem?_zipWith] at hi
        split at hi
        · rename_i g y hg hy
          simp only [Option.some.injEq] at hi
          subst hi
          exact (hfx i g y hg hy).2 a ha
        · simp at hi
    · rename_i k e ht
      simp only [Bool.and_eq_true, beq_iff_eq] at hp
      obtain ⟨xs, m, rfl, rfl, hl, hxl, hx⟩ := trod_array ht h
      simp only [encD, ht]
      have hfx : ∀ (i : Nat) y, (xs.map (·.1))[i]? = some y → RepL ι S w (encD P d e y) ((cs.drop (i * P.cellsOf e)).take (P.cellsOf e)) ∧ ∀ a ∈ encD P d e y, a.one = true := by
        intro i y hy
        have hi : i < k := by have := (List.getElem?_eq_some_iff.1 hy).1; simpa [hxl] using this
        have := hx i hi
        simp only [List.getElem?_map, Option.map_eq_some_iff] at hy
        obtain ⟨z, hz, rfl⟩ := hy
        rw [hz] at this
        exact trod_rep hS d m e _ z hp.1 this
      refine ⟨repL_flat _ (P.cellsOf e) _ cs (by rw [hl, hp.2]; simp [hxl]) fun i y hy => (hfx i y hy).1, fun a ha => ?_⟩
      obtain ⟨y, hy, ha⟩ := List.mem_flatMap.1 ha
      obtain ⟨i, hi⟩ := List.getElem?_of_mem hy
      exact (hfx i y hi).2 a ha
    · simp at hp
end
end Go.Am
