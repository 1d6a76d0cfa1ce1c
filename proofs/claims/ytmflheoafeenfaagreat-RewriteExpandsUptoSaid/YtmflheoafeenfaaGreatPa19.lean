/- Parts of the proof, joined by program: AmRow, AmRow2, AmRow3, RwEN, RwEO, RtC1, RtC9, RwIP. -/
import Derived.Test.YtmflheoafeenfaaGreatPa18
import Derived.ChangeStays
import Derived.ChangeArms
import Derived.WideShapes
import Derived.RowKit3
import Derived.ChangeSame
import Derived.ChangeBears
import Derived.Test.YtmflheoafeenfaaGreatPa8
import Derived.Test.YtmflheoafeenfaaGreatPa9
import Derived.Test.YtmflheoafeenfaaGreatPa7
set_option linter.unusedSimpArgs false
set_option linter.unusedVariables false
namespace Go.Am

section
variable (P : Program) {H : Type}

/-- What was read, of a type: its cells. -/
def encD : Nat → TypeId → DataW H → List AVal
  | 0, _, _ => []
  | d + 1, t, x => match P.underlying t, x with
    | some .bool, .lit (.bool b) => [abool b]
    | some (.int _), .lit (.int k n) => [.sc (.int k n)]
    | some .string, .lit (.string l) => [.sc (.string ⟨l.toArray⟩)]
    | some (.pointer _), .nil => [.sc (.pointer none)]
    | some (.pointer e), .ptr y => [.ro (encD d e y)]
    | some (.slice _), .nil => [anil]
    | some (.slice e), .slice es sp => [.rs (es.flatMap (encD d e)) es.length (some (es.length + sp.length))]
    | some (.struct fs), .agg ys => (List.zipWith (fun f y => encD d (Field.type f) y) fs.toList ys).flatten
    | some (.array _ e), .agg ys => ys.flatMap (encD d e)
    | _, _ => []

/-- Fields, one behind the other without a gap. -/
def tightFs (P : Program) : List Field → Nat → Bool
  | [], _ => true
  | f :: r, off => f.offset == off && tightFs P r (off + P.cellsOf f.type)
/-- Types whose readings these are. -/
def plainT : Nat → TypeId → Bool
  | 0, _ => false
  | d + 1, t => match P.underlying t with
    | some .bool => true
    | some (.int _) => true
    | some .string => true
    | some (.pointer e) => plainT d e
    | some (.slice e) => plainT d e && decide (0 < P.cellsOf e)
    | some (.struct fs) => fs.toList.all (fun f => plainT d f.type) && tightFs P fs.toList 0 && P.cellsOf t == (fs.toList.map fun f => P.cellsOf f.type).sum
    | some (.array n e) => plainT d e && P.cellsOf t == n * P.cellsOf e
    | _ => false
end

section
variable {P : Program} {H : Type} {enc : TypeId × Value → H} {w : World} {ι : Inj} {S : Nat → Prop}

/-- Cells that stand in a row, each known. -/
theorem repL_flat {α : Type} (f : α → List AVal) (z : Nat) : ∀ (l : List α) (cs : List Value), cs.length = l.length * z → (∀ (i : Nat) a, l[i]? = some a → RepL ι S w (f a) ((cs.drop (i * z)).take z)) → RepL ι S w (l.flatMap f) cs
  | [], cs, hl, h => by
    have : cs = [] := List.length_eq_zero_iff.1 (by simpa using hl)
    subst this
    exact ⟨rfl, fun j c v hc => by simp at hc⟩
  | a :: r, cs, hl, h => by
    have h0 := h 0 a rfl
    rw [Nat.zero_mul, List.drop_zero] at h0
    have hr := repL_flat f z r (cs.drop z) (by simp at hl ⊢; rw [hl, Nat.succ_mul]; omega) (fun i b hb => by
      have := h (i + 1) b (by simpa using hb)
      rw [List.drop_drop]
      rw [Nat.succ_mul] at this
      rw [Nat.add_comm z (i * z)]
      exact this)
    have := h0.append hr
    rw [List.take_append_drop] at this
    simpa using this

theorem cell_spot {a : Addr} {v : Value} (h : w.cell? a = some v) : a.spot = none ∧ a.block < w.heap.size := by
  unfold World.cell? at h
  cases hs : a.spot with
  | some x =>
    simp only [hs, Option.isSome_some, if_true] at h
    split at h <;> simp at h
  | none =>
    simp only [hs, Option.isSome_none, Bool.false_eq_true, if_false] at h
    refine ⟨rfl, ?_⟩
    cases hh : w.heap[a.block]? with
    | none => rw [hh] at h; simp at h
    | some o => exact (Array.getElem?_eq_some_iff.1 hh).1

theorem cells?_get {a : Addr} {n : Nat} {cs : List Value} (h : w.cells? 0 a n = some cs) : cs.length = n ∧ ∀ i, i < n → ∃ v, cs[i]? = some v ∧ w.cell? (a.add i) = some v := by
  unfold World.cells? at h
  rw [if_pos (Nat.zero_le _)] at h
  have h1 := mapM_some_length h
  refine ⟨by simpa using h1, fun i hi => ?_⟩
  have := mapM_some_get h i i (by simp [hi])
  have hl : i < cs.length := by simp at h1; omega
  exact ⟨cs[i], by simp [hl], by rw [this]; simp [hl]⟩

/-- A row of elements that stays. -/
theorem row_rep {a : Addr} {z k : Nat} {asq : List AVal} {us : List (List Value)} (hus : us.length = k) (hz : ∀ u ∈ us, u.length = z) (hcell : ∀ i u, us[i]? = some u → w.cells? 0 (a.add (i * z)) z = some u)
    (hrep : RepL ι S w asq us.flatten) (hS : ∀ b, b < w.heap.size → S b) :
    ∃ vs : Nat → Value, (0 < asq.length → a.spot = none ∧ S a.block) ∧ (∀ j, j < asq.length → w.cell? ⟨a.block, a.off + j, none⟩ = some (vs j)) ∧ (∀ (j : Nat) c, asq[j]? = some c → Rep ι S w c (vs j)) := by
  have hlen : us.flatten.length = k * z := by
    clear hcell hrep
    induction us generalizing k with
    | nil => simp at hus; subst hus; simp
    | cons u r ih =>
      simp at hus
      have := ih (k := r.length) rfl (fun x hx => hz x (by simp [hx]))
      simp only [List.flatten_cons, List.length_append, this, hz u (by simp)]
      rw [← hus, Nat.succ_mul]; omega
  have hsp : 0 < k * z → a.spot = none ∧ a.block < w.heap.size := by
    intro hp
    have hz0 : 0 < z := Nat.pos_of_mul_pos_left hp
    have hk0 : 0 < us.length := by rw [hus]; exact Nat.pos_of_mul_pos_right hp
    obtain ⟨k1, k2⟩ := cells?_get (hcell 0 us[0] (by simp [hk0]))
    obtain ⟨v, _, q2⟩ := k2 0 hz0
    have e : (a.add (0 * z)).add 0 = a := by simp [Addr.add]
    rw [e] at q2
    exact cell_spot q2
  have hflat : ∀ (us : List (List Value)) (j : Nat) (hz : ∀ u ∈ us, u.length = z) (hz0 : 0 < z) (hi : j / z < us.length), us.flatten[j]? = us[j / z][j % z]? := by
    intro us
    induction us with
    | nil => intro j hz hz0 hi; simp at hi
    | cons u r ih =>
      intro j hz hz0 hi
      have hu := hz u (by simp)
      rw [List.flatten_cons]
      by_cases hlt : j < z
      · rw [List.getElem?_append_left (by omega)]
        simp [Nat.div_eq_of_lt hlt, Nat.mod_eq_of_lt hlt]
      · rw [List.getElem?_append_right (by omega), hu]
        have hj : j = (j - z) + z := by omega
        have hd : j / z = (j - z) / z + 1 := by
          conv => lhs; rw [hj]
          exact Nat.add_div_right _ hz0
        have hm : j % z = (j - z) % z := by
          conv => lhs; rw [hj]
          exact Nat.add_mod_right _ _
        have hr : (j - z) / z < r.length := by simp [hd] at hi; exact hi
        rw [ih (j - z) (fun x hx => hz x (by simp [hx])) hz0 hr, hm]
        simp only [hd, List.getElem_cons_succ]
  have hget : ∀ j, j < k * z → ∃ v, us.flatten[j]? = some v ∧ w.cell? ⟨a.block, a.off + j, none⟩ = some v := by
    intro j hj
    have hp : 0 < k * z := by omega
    have hz0 : 0 < z := Nat.pos_of_mul_pos_left hp
    have hi : j / z < us.length := by rw [hus]; exact Nat.div_lt_of_lt_mul (by rw [Nat.mul_comm]; exact hj)
    obtain ⟨k1, k2⟩ := cells?_get (hcell (j / z) us[j / z] (by simp [hi]))
    obtain ⟨v, q1, q2⟩ := k2 (j % z) (Nat.mod_lt _ hz0)
    refine ⟨v, (hflat us j hz hz0 hi).trans q1, ?_⟩
    rw [addr_eta a (hsp hp).1, addr_add_mk, addr_add_mk] at q2
    rw [Nat.add_assoc, Nat.mul_comm, Nat.div_add_mod] at q2
    exact q2
  refine ⟨fun j => us.flatten.getD j default, fun hp => ?_, fun j hj => ?_, fun j c hc => ?_⟩
  · have : 0 < k * z := by rw [← hlen, ← hrep.1]; exact hp
    exact ⟨(hsp this).1, hS _ (hsp this).2⟩
  · have hj' : j < k * z := by rw [← hlen, ← hrep.1]; exact hj
    obtain ⟨v, h1, h2⟩ := hget j hj'
    rw [h2]
    simp [h1]
  · have hj' : j < k * z := by rw [← hlen, ← hrep.1]; exact (List.getElem?_eq_some_iff.1 hc).1
    obtain ⟨v, h1, h2⟩ := hget j hj'
    refine hrep.2 j c _ hc ?_
    rw [h1]
    simp [h1]

theorem repL_flatten {α : Type} (f : α → List AVal) : ∀ (l : List α) (us : List (List Value)), l.length = us.length → (∀ (i : Nat) a u, l[i]? = some a → us[i]? = some u → RepL ι S w (f a) u) → RepL ι S w (l.flatMap f) us.flatten
  | [], [], hl, h => ⟨rfl, fun j c v hc => by simp at hc⟩
  | [], _ :: _, hl, h => by simp at hl
  | _ :: _, [], hl, h => by simp at hl
  | a :: r, u :: us, hl, h => by
    have h0 := h 0 a u rfl rfl
    have hr := repL_flatten f r us (by simpa using hl) fun i b v hb hv => h (i + 1) b v (by simpa using hb) (by simpa using hv)
    simpa using h0.append hr

theorem repL_fields (f : Field → DataW H → List AVal) : ∀ (fs : List Field) (ys : List (DataW H)) (off : Nat) (cs : List Value), fs.length = ys.length → tightFs P fs off = true → off + (fs.map fun f => P.cellsOf f.type).sum ≤ cs.length →
    (∀ (i : Nat) g y, fs[i]? = some g → ys[i]? = some y → RepL ι S w (f g y) ((cs.drop g.offset).take (P.cellsOf g.type))) →
    RepL ι S w (List.zipWith f fs ys).flatten ((cs.drop off).take (fs.map fun f => P.cellsOf f.type).sum)
  | [], [], off, cs, hl, ht, hle, h => by simp; exact ⟨rfl, fun j c v hc => by simp at hc⟩
  | [], _ :: _, off, cs, hl, ht, hle, h => by simp at hl
  | _ :: _, [], off, cs, hl, ht, hle, h => by simp at hl
  | g :: fs, y :: ys, off, cs, hl, ht, hle, h => by
    simp only [tightFs, Bool.and_eq_true, beq_iff_eq] at ht
    simp only [List.map_cons, List.sum_cons] at hle ⊢
    have h0 := h 0 g y rfl rfl
    rw [ht.1] at h0
    have hr := repL_fields f fs ys (off + P.cellsOf g.type) cs (by simpa using hl) ht.2 (by omega) fun i g' y' hg hy => h (i + 1) g' y' (by simpa using hg) (by simpa using hy)
    have := h0.append hr
    rw [← List.drop_drop, List.take_add.symm] at this
    simpa using this

theorem trod_array {e : TypeId} {k fuel : Nat} {base : Nat} {spare : Nat → Bool} {held : Bool} {t : TypeId} {cs : List Value} {x : DataW H × List MemPlace} (ht : P.underlying t = some (.array k e)) (h : DataW.trod enc P w base spare held fuel t cs = some x) :
    ∃ (xs : List (DataW H × List MemPlace)) (n : Nat), fuel = n + 1 ∧ x = (.agg (xs.map (·.1)), xs.flatMap (·.2)) ∧ cs.length = P.cellsOf t ∧ xs.length = k ∧
      ∀ i, i < k → DataW.trod enc P w base spare held n e ((cs.drop (i * P.cellsOf e)).take (P.cellsOf e)) = xs[i]? := by
  cases fuel with
  | zero => simp [DataW.trod] at h
  | succ n =>
    unfold DataW.trod at h
    rw [ht] at h
    split at h <;> simp_all
    obtain ⟨hl, xs, hp, hd⟩ := h
    exact ⟨xs, hd.symm, by simpa using mapM_some_length hp, fun i hi => by simpa using mapM_some_get hp i i (by simp [hi])⟩

theorem trod_rep (hS : ∀ b, b < w.heap.size → S b) {held : Bool} : ∀ (d n : Nat) (t : TypeId) (cs : List Value) (x : DataW H × List MemPlace), plainT P d t = true → DataW.trod enc P w 0 (fun _ => true) held n t cs = some x →
    RepL ι S w (encD P d t x.1) cs ∧ ∀ a ∈ encD P d t x.1, a.one = true
  | 0, n, t, cs, x, hp, h => by simp [plainT] at hp
  | d + 1, n, t, cs, x, hp, h => by
    have one : ∀ {a : AVal} {v : Value}, Rep ι S w a v → RepL ι S w [a] [v] := fun hr => ⟨rfl, fun j c u hc hu => by
      cases j with
      | zero => simp at hc hu; subst hc hu; exact hr
      | succ j => simp at hc⟩
    unfold plainT at hp
    split at hp
    · rename_i ht
      obtain ⟨b, rfl, rfl⟩ := DataW.trod_bool ht h
      simp only [encD, ht]
      exact ⟨one (.sc rfl), by simp [abool, AVal.one]⟩
    · rename_i k ht
      obtain ⟨b, rfl, rfl, _⟩ := DataW.trod_int ht h
      simp only [encD, ht]
      exact ⟨one (.sc rfl), by simp [AVal.one]⟩
    · rename_i ht
      obtain ⟨b, rfl, rfl, _⟩ := DataW.trod_string ht h
      simp only [encD, ht]
      exact ⟨one (.sc rfl), by simp [AVal.one]⟩
    · rename_i e ht
      rcases DataW.trod_pointer ht h with ⟨rfl, rfl⟩ | ⟨a, cs', y, m, rfl, rfl, rfl, hc, hy⟩
      · simp only [encD, ht]
        exact ⟨one (.sc rfl), by simp [AVal.one]⟩
      · simp only [encD, ht]
        obtain ⟨r1, r2⟩ := trod_rep hS d m e cs' y hp hy
        obtain ⟨c1, c2⟩ := cells?_get hc
        obtain ⟨vs, q1, q2, q3⟩ := row_rep (a := a) (z := P.cellsOf e) (k := 1) (asq := encD P d e y.1) (us := [cs']) rfl (fun u hu => by simp at hu; subst hu; exact c1) (fun i u hu => by
          cases i with
          | zero => simp at hu; subst hu; simpa [Addr.add] using hc
          | succ i => simp at hu) (by simpa using r1) hS
        exact ⟨one (.ro vs q1 q2 q3 r2), by simp [AVal.one]⟩
    · rename_i e ht
      simp only [Bool.and_eq_true] at hp
      replace hp := hp.1
      rcases DataW.trod_slice ht h with ⟨rfl, rfl⟩ | ⟨a, len, cap, elems, rest, m, rfl, rfl, rfl, _, hlc, _, hel, hE, hR, _⟩
      · simp only [encD, ht]
        exact ⟨one (.sc rfl), by simp [AVal.one, anil]⟩
      · obtain ⟨hrl, hR⟩ := hR rfl
        simp only [encD, ht, List.length_map]
        have hall : ∀ i (y : DataW H × List MemPlace), (elems ++ rest)[i]? = some y → ∃ u, w.cells? 0 (a.add (i * P.cellsOf e)) (P.cellsOf e) = some u ∧ DataW.trod enc P w 0 (fun _ => true) held m e u = some y := by
          intro i y hi
          by_cases hlt : i < len
          · rw [List.getElem?_append_left (by omega)] at hi
            have := hE i hlt
            rw [hi, Option.bind_eq_some_iff] at this
            exact this
          · rw [List.getElem?_append_right (by omega), hel] at hi
            have hj : i - len < cap - len := by have := (List.getElem?_eq_some_iff.1 hi).1; omega
            have := hR (i - len) hj
            rw [hi, Option.bind_eq_some_iff] at this
            rw [show len + (i - len) = i by omega] at this
            exact this
        have hlen : (elems ++ rest).length = cap := by simp; omega
        have hus : ∀ i u, ((List.range cap).map fun i => (w.cells? 0 (a.add (i * P.cellsOf e)) (P.cellsOf e)).getD [])[i]? = some u → i < cap ∧ w.cells? 0 (a.add (i * P.cellsOf e)) (P.cellsOf e) = some u := by
          intro i u hu
          have hi : i < cap := by have := (List.getElem?_eq_some_iff.1 hu).1; simpa using this
          obtain ⟨u', k1, _⟩ := hall i (elems ++ rest)[i] (by simp [hlen, hi])
          simp [hi, k1] at hu
          subst hu
          exact ⟨hi, k1⟩
        obtain ⟨vs, q1, q2, q3⟩ := row_rep (ι := ι) (a := a) (z := P.cellsOf e) (k := cap) (asq := (elems ++ rest).flatMap fun y => encD P d e y.1) (us := (List.range cap).map fun i => (w.cells? 0 (a.add (i * P.cellsOf e)) (P.cellsOf e)).getD []) (by simp)
          (fun u hu => by
            obtain ⟨i, hi⟩ := List.getElem?_of_mem hu
            exact (cells?_get (hus i u hi).2).1) (fun i u hu => (hus i u hu).2)
          (repL_flatten _ _ _ (by rw [hlen]; simp) fun i y u hy hu => by
            obtain ⟨u', k1, k2⟩ := hall i y hy
            have := (hus i u hu).2
            rw [k1] at this
            cases this
            exact (trod_rep hS d m e _ y hp k2).1) hS
        have ef : (elems.map (·.1)).flatMap (encD P d e) = elems.flatMap fun y => encD P d e y.1 := by
          rw [List.flatMap_map]
        rw [ef]
        rw [List.flatMap_append] at q1 q2 q3
        replace q1 : 0 < (elems.flatMap fun y => encD P d e y.1).length → a.spot = none ∧ S a.block := fun h => q1 (by rw [List.length_append]; omega)
        replace q2 := fun j (h : j < (elems.flatMap fun y => encD P d e y.1).length) => q2 j (by rw [List.length_append]; omega)
        replace q3 : ∀ (j : Nat) c, (elems.flatMap fun y => encD P d e y.1)[j]? = some c → Rep ι S w c (vs j) := fun j c h => q3 j c (by rw [List.getElem?_append_left (List.getElem?_eq_some_iff.1 h).1]; exact h)
        have hcap : elems.length + rest.length = cap := by simpa using hlen
        rw [hcap, hel]
        refine ⟨one (.rs vs hlc (fun k hk => by simpa using hk) q1 q2 q3 fun c hc => ?_), by simp [AVal.one]⟩
        obtain ⟨y, hy, hc⟩ := List.mem_flatMap.1 hc
        obtain ⟨i, hi⟩ := List.getElem?_of_mem hy
        obtain ⟨u', k1, k2⟩ := hall i y (by rw [List.getElem?_append_left (List.getElem?_eq_some_iff.1 hi).1]; exact hi)
        exact (trod_rep hS d m e _ y hp k2).2 c hc
    · rename_i fs ht
      simp only [Bool.and_eq_true, beq_iff_eq] at hp
      obtain ⟨⟨hp1, hp2⟩, hp3⟩ := hp
      obtain ⟨xs, m, rfl, rfl, hl, hxl, hx⟩ := DataW.trod_struct ht h
      simp only [encD, ht]
      have hfx : ∀ (i : Nat) g y, fs.toList[i]? = some g → (xs.map (·.1))[i]? = some y → RepL ι S w (encD P d g.type y) ((cs.drop g.offset).take (P.cellsOf g.type)) ∧ ∀ a ∈ encD P d g.type y, a.one = true := by
        intro i g y hg hy
        have := hx i g (by simpa using hg)
        simp only [List.getElem?_map, Option.map_eq_some_iff] at hy
        obtain ⟨z, hz, rfl⟩ := hy
        rw [hz] at this
        exact trod_rep hS d m g.type _ z (List.all_eq_true.1 hp1 g (List.mem_of_getElem? hg)) this
      refine ⟨?_, fun a ha => ?_⟩
      · have := repL_fields (P := P) (fun g y => encD P d g.type y) fs.toList (xs.map (·.1)) 0 cs (by simp [hxl]) hp2 (by rw [hl, hp3]; omega) (fun i g y hg hy => (hfx i g y hg hy).1)
        rw [← hp3, ← hl] at this
        simpa using this
      · obtain ⟨l, hl', ha⟩ := List.mem_flatten.1 ha
        obtain ⟨i, hi⟩ := List.getElem?_of_mem hl'
        rw [List.getElem?_zipWith] at hi
        split at hi
        · rename_i g y hg hy
          simp only [Option.some.injEq] at hi
          subst hi
          exact (hfx i g y hg hy).2 a ha
        · simp at hi
    · rename_i k e ht
      simp only [Bool.and_eq_true, beq_iff_eq] at hp
      obtain ⟨xs, m, rfl, rfl, hl, hxl, hx⟩ := trod_array ht h
      simp only [encD, ht]
      have hfx : ∀ (i : Nat) y, (xs.map (·.1))[i]? = some y → RepL ι S w (encD P d e y) ((cs.drop (i * P.cellsOf e)).take (P.cellsOf e)) ∧ ∀ a ∈ encD P d e y, a.one = true := by
        intro i y hy
        have hi : i < k := by have := (List.getElem?_eq_some_iff.1 hy).1; simpa [hxl] using this
        have := hx i hi
        simp only [List.getElem?_map, Option.map_eq_some_iff] at hy
        obtain ⟨z, hz, rfl⟩ := hy
        rw [hz] at this
        exact trod_rep hS d m e _ z hp.1 this
      refine ⟨repL_flat _ (P.cellsOf e) _ cs (by rw [hl, hp.2]; simp [hxl]) fun i y hy => (hfx i y hy).1, fun a ha => ?_⟩
      obtain ⟨y, hy, ha⟩ := List.mem_flatMap.1 ha
      obtain ⟨i, hi⟩ := List.getElem?_of_mem hy
      exact (hfx i y hi).2 a ha
    · simp at hp
end
end Go.Am
namespace Go.Am

/-- A parameter's value. -/
def valD (P : Program) {H : Type} (d : Nat) (t : TypeId) (x : DataW H) : AVal :=
  match P.underlying t with
  | some (.struct _) => .agg (encD P d t x)
  | some (.array _ _) => .agg (encD P d t x)
  | _ => (encD P d t x).headD (.tup [])

section
variable {P : Program} {H : Type} {enc : TypeId × Value → H} {w w' : World} {ι : Inj} {S : Nat → Prop}

theorem val_rep (hS : ∀ b, b < w.heap.size → S b) {held : Bool} {d : Nat} {t : TypeId} {v : Value} {x : DataW H} {ps : List MemPlace} {r : Reach} {base : Nat} (hp : plainT P d t = true) (hv : Value.okWide P w r base t v) (h : DataW.Trod enc P w 0 (fun _ => true) held t v x ps) : Rep ι S w (valD P d t x) v := by
  obtain ⟨n, h⟩ := h
  obtain ⟨h1, _⟩ := trod_rep (ι := ι) hS d n t _ _ hp h
  cases d with
  | zero => simp [plainT] at hp
  | succ d =>
  have one : ∀ {a : List AVal} {u : Value}, RepL ι S w a [u] → Rep ι S w (a.headD (.tup [])) u := by
    intro a u hr
    match a, hr with
    | [c], hr => exact hr.2 0 c u rfl rfl
    | [], hr => exact absurd hr.1 (by simp)
    | _ :: _ :: _, hr => exact absurd hr.1 (by simp)
  unfold plainT at hp
  split at hp
  · rename_i ht
    obtain ⟨b, rfl⟩ := WideShapes.okWide_bool ht hv
    simp only [valD, ht]
    exact one h1
  · rename_i k ht
    obtain ⟨b, rfl⟩ := WideShapes.okWide_int ht hv
    simp only [valD, ht]
    exact one h1
  · rename_i ht
    obtain ⟨b, rfl⟩ := WideShapes.okWide_string ht hv
    simp only [valD, ht]
    exact one h1
  · rename_i e ht
    obtain ⟨b, rfl⟩ := WideShapes.okWide_pointer ht hv
    simp only [valD, ht]
    exact one h1
  · rename_i e ht
    obtain ⟨b, l, c, rfl⟩ := WideShapes.okWide_slice ht hv
    simp only [valD, ht]
    exact one h1
  · rename_i fs ht
    obtain ⟨cs, rfl, _⟩ := WideShapes.okWide_struct ht hv
    simp only [valD, ht]
    exact rep_agg_mk h1
  · rename_i n e ht
    simp only [Value.okWide, ht] at hv
    obtain ⟨cs, rfl, _⟩ := hv
    simp only [valD, ht]
    exact rep_agg_mk h1
  · simp at hp

theorem tight_take : ∀ (fs : List Field) (off : Nat), tightFs P fs off = true → ∀ (j : Nat) f, fs[j]? = some f → f.offset = off + ((fs.take j).map fun f => P.cellsOf f.type).sum
  | [], off, h, j, f, hf => by simp at hf
  | g :: fs, off, h, j, f, hf => by
    simp only [tightFs, Bool.and_eq_true, beq_iff_eq] at h
    cases j with
    | zero => simp at hf; subst hf; simp [h.1]
    | succ j =>
      have := tight_take fs _ h.2 j f (by simpa using hf)
      rw [this]
      simp
      omega

theorem kids_plain : Kids P (fun t => ∃ d, plainT P d t = true) := by
  refine ⟨fun {t e} h ht => ?_, fun {t e} h ht => ?_, fun {t e n} h ht => ?_, fun {t fs} h ht => ?_, fun {t k e} h ht => ?_⟩
  all_goals
    obtain ⟨d, h⟩ := h
    cases d with
    | zero => simp [plainT] at h
    | succ d => ?_
  all_goals simp only [plainT, ht] at h
  · exact ⟨d, h⟩
  · simp only [Bool.and_eq_true] at h
    exact ⟨d, h.1⟩
  · simp only [Bool.and_eq_true, beq_iff_eq] at h
    exact ⟨⟨d, h.1⟩, h.2⟩
  · simp only [Bool.and_eq_true, beq_iff_eq] at h
    refine ⟨fun f hf => ⟨d, List.all_eq_true.1 h.1.1 f hf⟩, h.2, fun j f hf => ?_⟩
    have := tight_take _ _ h.1.2 j f hf
    simpa using this
  · simp at h

/-- What was there has not turned. -/
structure StillW (w w' : World) : Prop where
  kept : w.keptBut w' fun _ => False
  frz : ∀ a : Addr, a.block < w.heap.size → w'.frozen? a = w.frozen? a
  size : w.heap.size ≤ w'.heap.size
theorem still_of (h : WStep (fun _ => False) w w') : StillW w w' := by
  refine ⟨⟨h.os, h.output, fun i hi => ?_⟩, fun a ha => ?_, h.size⟩
  · rw [h.keep i hi (fun f => f)]
    split
    · rename_i h1 h2
      rw [h1] at h2
      cases h2
      exact ⟨rfl, rfl, rfl, fun _ _ => rfl⟩
    · rename_i h1 h2
      rw [h1] at h2
      cases h2
      exact .inr ⟨rfl, rfl⟩
    · rfl
  · unfold World.frozen?
    rw [h.keep _ ha (fun f => f)]
open Go.ChangeShapes Go.WideShapes in
/-- As the kit's 'post_of_same'; of frozen cells those that were there count. -/
theorem post_of_still {f : Func} {s : ChangeSpec} {apart fresh handsOn again : Bool} {W W' : World} {args : Array Value} {v : Value} {ds gs : List (DataW H)} {before pa pv : List MemPlace}
    (hW : DataW.Whole enc P f.params.toList s.vars apart W args.toList ds gs before)
    (hres : ∀ (b : Nat) (sp : Nat → Bool) (hd : Bool), DataW.TrodAll enc P W' b sp hd f.resultTypes.toList (v.resultList f.resultTypes.size) (s.fn H (ds ++ gs)).results [])
    (hargs : ∀ sp : Nat → Bool, (∀ p ∈ before, sp p.block = true) → DataW.TrodAll enc P W' 0 sp true f.params.toList args.toList (s.fn H (ds ++ gs)).args pa)
    (hvars : ∀ sp : Nat → Bool, (∀ p ∈ before, sp p.block = true) → DataW.TrodVars enc P W' sp s.vars (s.fn H (ds ++ gs)).vars pv)
    (hps : before = pa ++ pv) (hst : StillW W W')
    (hok : ∀ (j : Nat) (t : TypeId) (r : Value), f.resultTypes[j]? = some t → (v.resultList f.resultTypes.size)[j]? = some r → Value.okWide P W' .any 0 t r) :
    s.post enc P f apart fresh handsOn again W args v W' := by
  have hlt : ∀ p ∈ before, p.block < W.heap.size := fun p hp => hW.lt p hp
  have hold : ∀ p ∈ before, (fun b => decide (b < W.heap.size)) p.block = true := fun p hp => by simpa using hW.lt p hp
  refine ⟨ds, gs, before, [], pa, pv, hW, hres _ _ _, hargs _ hold, hvars _ hold, World.keptBut_mono (fun p hp => hp.elim) hst.kept, fun _ => ?_⟩
  obtain ⟨_, _, _, _, _, hz, hn⟩ := hW
  refine ⟨hok, _, _, ([] ++ pa) ++ pv, ⟨[] ++ pa, pv, trodAll_append (hargs _ (fun _ _ => rfl)) (hres _ _ _), hvars _ (fun _ _ => rfl), rfl, ?_, ?_⟩, ?_⟩
  · intro b off hp
    have hp' : MemPlace.cell b off ∈ before := by rw [hps]; simpa using hp
    rw [hst.frz ⟨b, off, none⟩ (hlt _ hp')]
    exact hz b off hp'
  · intro ha
    have := hn ha
    rw [hps] at this
    simpa using this
  · intro p hp _
    rw [hps]
    simpa using hp

theorem same_of (h : WStep (fun _ => False) w w') {p : MemPlace} (hp : p.block < w.heap.size) : w.sameAt w' p := by
  cases p with
  | cell b off => exact cell?_of_heap (a := ⟨b, off, none⟩) (h.keep b hp (fun f => f))
  | map b => exact h.keep b hp (fun f => f)

theorem trodAll_again {sp : Nat → Bool} (h : WStep (fun _ => False) w w') : ∀ {ts : List TypeId} {vs : List Value} {ds : List (DataW H)} {ps : List MemPlace}, (∀ t ∈ ts, ∃ d, plainT P d t = true) → DataW.TrodAll enc P w 0 (fun _ => true) true ts vs ds ps → (∀ p ∈ ps, sp p.block = true) →
    DataW.TrodAll enc P w' 0 sp true ts vs ds ps
  | [], [], [], ps, hp, ht, hs => ht
  | t :: ts, v :: vs, d :: ds, ps, hp, ⟨p, q, ⟨n, h1⟩, h2, e⟩, hs => by
    subst e
    refine ⟨p, q, ⟨n, DataW.trod_stays kids_plain (fun {t e} hT hu => ?_) (fun hh => by cases hh) (hp t (by simp)) h1 (fun x hx => same_of h (DataW.trod_lt n _ _ _ h1 x hx)) (fun x hx => hs x (by simp [hx]))⟩,
      trodAll_again h (fun t' ht' => hp t' (by simp [ht'])) h2 (fun x hx => hs x (by simp [hx])), rfl⟩
    obtain ⟨d, hT⟩ := hT
    cases d with
    | zero => simp [plainT] at hT
    | succ d =>
      simp only [plainT, hu, Bool.and_eq_true, decide_eq_true_eq] at hT
      exact hT.2
  | [], [], _ :: _, ps, hp, ht, hs => by simp [DataW.TrodAll] at ht
  | [], _ :: _, _, ps, hp, ht, hs => by simp [DataW.TrodAll] at ht
  | _ :: _, [], _, ps, hp, ht, hs => by simp [DataW.TrodAll] at ht
  | _ :: _, _ :: _, [], ps, hp, ht, hs => by simp [DataW.TrodAll] at ht

theorem vals_rep (hS : ∀ b, b < w.heap.size → S b) {k : Nat} {r : Reach} {base : Nat} : ∀ {ts : List TypeId} {vs : List Value} {ds : List (DataW H)} {ps : List MemPlace}, (∀ t ∈ ts, plainT P k t = true) → (∀ (j : Nat) t v, ts[j]? = some t → vs[j]? = some v → Value.okWide P w r base t v) →
    DataW.TrodAll enc P w 0 (fun _ => true) true ts vs ds ps → RepL ι S w (List.zipWith (valD P k) ts ds) vs
  | [], [], [], ps, hp, hv, ht => ⟨rfl, fun j c v hc => by simp at hc⟩
  | t :: ts, v :: vs, d :: ds, ps, hp, hv, ⟨p, q, h1, h2, e⟩ => by
    have h0 : Rep ι S w (valD P k t d) v := val_rep hS (hp t (by simp)) (hv 0 t v rfl rfl) h1
    have hr : RepL ι S w (List.zipWith (valD P k) ts ds) vs := vals_rep hS (fun t' ht' => hp t' (by simp [ht'])) (fun j t' v' hj hv' => hv (j + 1) t' v' (by simpa using hj) (by simpa using hv')) h2
    refine ⟨by simp [← hr.1], fun j c u hc hu => ?_⟩
    cases j with
    | zero => simp at hc hu; subst hc hu; exact h0
    | succ j => exact hr.2 j c u (by simpa using hc) (by simpa using hu)
  | [], [], _ :: _, ps, hp, hv, ht => by simp [DataW.TrodAll] at ht
  | [], _ :: _, _, ps, hp, hv, ht => by simp [DataW.TrodAll] at ht
  | _ :: _, [], _, ps, hp, hv, ht => by simp [DataW.TrodAll] at ht
  | _ :: _, _ :: _, [], ps, hp, hv, ht => by simp [DataW.TrodAll] at ht

/-- What a law's row asks, of the evaluator's answer. -/
theorem law_calls {E : Env} (hE : EnvOk P E) {f : FuncId} {ts : List TypeId} {args : Array Value} {ds : List (DataW H)} {ps : List MemPlace} {k : Nat} {r : Reach} {base : Nat} (hp : ∀ t ∈ ts, plainT P k t = true)
    (hv : ∀ (j : Nat) t v, ts[j]? = some t → args.toList[j]? = some v → Value.okWide P w r base t v) (ht : DataW.TrodAll enc P w 0 (fun _ => true) true ts args.toList ds ps)
    {n : Nat} {b : Bool} {m' : Mem} (hlaw : callF E n (.func f) (List.zipWith (valD P k) ts ds) ⟨.nil, 0, 0⟩ = some (abool b, m')) :
    Calls P f args w fun e w' => e = .returned (.bool b) ∧ StillW w w' ∧ ∀ sp : Nat → Bool, (∀ p ∈ ps, sp p.block = true) → DataW.TrodAll enc P w' 0 sp true ts args.toList ds ps := by
  have hsim := sim_of hE hlaw (fun _ => none) (fun b => b < w.heap.size) w args.toList (vals_rep (fun _ h => h) hp hv ht) (mrel_none fun _ h => h) (fun _ _ _ => rfl)
  rw [show args.toList.toArray = args by simp] at hsim
  refine hsim.mono fun e w' ⟨u, ι', S', he, hpost⟩ => ?_
  have hstep : WStep (fun _ => False) w w' := hpost.step.mono fun b _ h => own_none h
  have hu := rep_bool hpost.rep
  subst hu
  exact ⟨he, still_of hstep, fun sp hs => trodAll_again hstep (fun t ht => ⟨k, hp t ht⟩) ht hs⟩
end
end Go.Am
namespace Go.Am
/-- What a reading of this type looks like. -/
def shD (P : Program) {H : Type} : Nat → TypeId → DataW H → Prop
  | 0, _, _ => False
  | d + 1, t, x => match P.underlying t with
    | some .bool => ∃ b, x = .lit (.bool b)
    | some (.int k) => ∃ n, x = .lit (.int k n) ∧ (Lit.int k n).wf = true
    | some .string => ∃ l, x = .lit (.string l)
    | some (.pointer e) => x = .nil ∨ ∃ y, x = .ptr y ∧ shD P d e y
    | some (.slice e) => x = .nil ∨ ∃ es sp, x = .slice es sp ∧ ∀ y ∈ es, shD P d e y
    | some (.struct fs) => ∃ ys, x = .agg ys ∧ ys.length = fs.size ∧ ∀ (i : Nat) f y, fs[i]? = some f → ys[i]? = some y → shD P d (Field.type f) y
    | some (.array k e) => ∃ ys, x = .agg ys ∧ ys.length = k ∧ ∀ y ∈ ys, shD P d e y
    | _ => False
section
variable {P : Program} {H : Type} {enc : TypeId × Value → H} {w : World}
theorem trod_sh {held : Bool} : ∀ (d n : Nat) (t : TypeId) (cs : List Value) (x : DataW H × List MemPlace), plainT P d t = true → DataW.trod enc P w 0 (fun _ => true) held n t cs = some x → shD P d t x.1
  | 0, n, t, cs, x, hp, h => by simp [plainT] at hp
  | d + 1, n, t, cs, x, hp, h => by
    unfold plainT at hp
    split at hp
    · rename_i ht
      obtain ⟨b, -, rfl⟩ := DataW.trod_bool ht h
      simp only [shD, ht]
      exact ⟨b, rfl⟩
    · rename_i k ht
      obtain ⟨m, -, rfl, hw⟩ := DataW.trod_int ht h
      simp only [shD, ht]
      exact ⟨m, rfl, hw⟩
    · rename_i ht
      obtain ⟨s, -, rfl, -⟩ := DataW.trod_string ht h
      simp only [shD, ht]
      exact ⟨_, rfl⟩
    · rename_i e ht
      simp only [shD, ht]
      rcases DataW.trod_pointer ht h with ⟨-, rfl⟩ | ⟨a, cs', y, m, -, -, rfl, -, hy⟩
      · exact .inl rfl
      · exact .inr ⟨_, rfl, trod_sh d m e _ y hp hy⟩
    · rename_i e ht
      simp only [shD, ht]
      simp only [Bool.and_eq_true] at hp
      rcases DataW.trod_slice ht h with ⟨-, rfl⟩ | ⟨a, len, cap, elems, rest, m, -, -, rfl, -, -, -, hel, hE, -, -⟩
      · exact .inl rfl
      · refine .inr ⟨_, _, rfl, fun y hy => ?_⟩
        obtain ⟨z, hz, rfl⟩ := List.mem_map.1 hy
        obtain ⟨i, hi⟩ := List.getElem?_of_mem hz
        have hlt : i < len := by have := (List.getElem?_eq_some_iff.1 hi).1; omega
        have := hE i hlt
        rw [hi, Option.bind_eq_some_iff] at this
        obtain ⟨u, -, k2⟩ := this
        exact trod_sh d m e _ z hp.1 k2
    · rename_i fs ht
      simp only [shD, ht]
      simp only [Bool.and_eq_true] at hp
      obtain ⟨xs, m, -, rfl, -, hl, hf⟩ := DataW.trod_struct ht h
      refine ⟨_, rfl, by simp [hl], fun i f y h1 h2 => ?_⟩
      rw [List.getElem?_map, Option.map_eq_some_iff] at h2
      obtain ⟨z, hz, rfl⟩ := h2
      have := hf i f h1
      rw [hz] at this
      exact trod_sh d m f.type _ z (List.all_eq_true.1 hp.1.1 f (by
        have : f ∈ fs.toList := by
          rw [← Array.getElem?_toList] at h1
          exact List.mem_of_getElem? h1
        exact this)) this
    · rename_i k e ht
      simp only [shD, ht]
      simp only [Bool.and_eq_true] at hp
      obtain ⟨xs, m, -, rfl, -, hl, hf⟩ := trod_array ht h
      refine ⟨_, rfl, by simp [hl], fun y hy => ?_⟩
      obtain ⟨z, hz, rfl⟩ := List.mem_map.1 hy
      obtain ⟨i, hi⟩ := List.getElem?_of_mem hz
      have hlt : i < k := by have := (List.getElem?_eq_some_iff.1 hi).1; omega
      have := hf i hlt
      rw [hi] at this
      exact trod_sh d m e _ z hp.1 this
    · simp at hp
end
section
variable {P : Program} {H : Type} {d : Nat} {t : TypeId} {x : DataW H}
theorem shD_int {k : IntKind} (ht : P.underlying t = some (.int k)) (h : shD P (d + 1) t x) : ∃ n, x = .lit (.int k n) ∧ (Lit.int k n).wf = true ∧ encD P (d + 1) t x = [.sc (.int k n)] := by
  rw [shD] at h
  simp only [ht] at h
  obtain ⟨n, rfl, hw⟩ := h
  exact ⟨n, rfl, hw, by simp only [encD, ht]⟩
theorem shD_slice {e : TypeId} (ht : P.underlying t = some (.slice e)) (h : shD P (d + 1) t x) : (x = .nil ∧ encD P (d + 1) t x = [anil]) ∨ ∃ es sp, x = .slice es sp ∧ (∀ y ∈ es, shD P d e y) ∧ encD P (d + 1) t x = [.rs (es.flatMap (encD P d e)) es.length (some (es.length + sp.length))] := by
  rw [shD] at h
  simp only [ht] at h
  rcases h with rfl | ⟨es, sp, rfl, hy⟩
  · exact .inl ⟨rfl, by simp only [encD, ht]⟩
  · exact .inr ⟨es, sp, rfl, hy, by simp only [encD, ht]⟩
theorem shD_struct {fs : Array Field} (ht : P.underlying t = some (.struct fs)) (h : shD P (d + 1) t x) : ∃ ys, x = .agg ys ∧ ys.length = fs.size ∧ (∀ (i : Nat) f y, fs[i]? = some f → ys[i]? = some y → shD P d (Field.type f) y) ∧ encD P (d + 1) t x = (List.zipWith (fun f y => encD P d (Field.type f) y) fs.toList ys).flatten ∧ valD P (d + 1) t x = .agg (encD P (d + 1) t x) := by
  rw [shD] at h
  simp only [ht] at h
  obtain ⟨ys, rfl, h1, h2⟩ := h
  exact ⟨ys, rfl, h1, h2, by simp only [encD, ht], by unfold valD; simp only [ht]⟩
end
end Go.Am
namespace Go.Proofs.YtmflheoafeenfaaGreat
open Go.Am Go.Proofs
set_option maxRecDepth 100000
def EnvR (fl rw fr : List FuncId) : Env := { fns := fnsT, mode := fun f => if fl.contains f then .iso false else if rw.contains f then .iso true else if fr.contains f then .fresh else .open_, known := fun _ _ _ => none }
theorem EnvR_ok (fl rw fr : List FuncId) : EnvOk Tryz.prog (EnvR fl rw fr) where
  orders := by kernel_rfl
  fns := fun f fn' h => by
    unfold EnvR fnsT at h
    simp only [Option.map_eq_some_iff] at h
    obtain ⟨p, hp, rfl⟩ := h
    have h1 := List.find?_some hp
    have h2 := List.mem_of_find?_eq_some hp
    simp only [beq_iff_eq] at h1
    subst h1
    exact tbl_ok p h2
  grow := fun f args m v m' h => by simp [EnvR] at h
  known := fun f args m v m' h => by simp [EnvR] at h
/-- What a run by the kernel shows. -/
theorem alive18_of {E : Env} {L : Hp} (hm : E.mode f_phasorlaw18_alive = .iso false) (hf : E.fns f_phasorlaw18_alive = some c_phasorlaw18_alive) (h : (match body E 100000 c_phasorlaw18_alive [] ⟨.nil, 0, 0⟩ with | some (.sc (.bool true), _) => true | _ => false) = true) : CallO E f_phasorlaw18_alive [] L fun v L' => v = abool true ∧ L' = L := by
  have h : ∃ m', body E 100000 c_phasorlaw18_alive [] ⟨.nil, 0, 0⟩ = some (abool true, m') := by
    split at h
    · rename_i m' h'
      exact ⟨m', h'⟩
    · cases h
  obtain ⟨m', h⟩ := h
  refine ⟨fun m ho => (call_iso0 (R := fun v => v = abool true) (vs := []) hm hf rfl ⟨100000, abool true, m', h, rfl, rfl⟩).mono ?_⟩
  rintro v m1 ⟨h1, rfl⟩
  exact ⟨L, ho, h1, rfl⟩
end Go.Proofs.YtmflheoafeenfaaGreat
namespace Go.Proofs.YtmflheoafeenfaaGreat
open Go.Am Go.Proofs
set_option maxRecDepth 100000
def mdFlatO : List FuncId := [f_phasorlaw18_num, f_phasorlaw18_alive, f_rewrite_asks, f_rewrite_plain, f_rewrite_Touch, f_rewrite_Touch_1, f_rewrite_Touch_2, f_slices_Contains_int_int, f_slices_Index_int_int, f_slices_ContainsFunc_int_int, f_slices_IndexFunc_int_int, f_rewrite_compare, f_cmp_Or_int, f_slices_Compare_int_int, f_cmp_Compare_int, f_cmp_isNaN_int, f_cmp_Compare_api_OpKind, f_cmp_isNaN_api_OpKind, f_cmp_Compare_api_GateKind, f_cmp_isNaN_api_GateKind, f_circuit_Check, f_circuit_may, f_gate_Check, f_gate_Arity, f_gate_of, f_gate_table, f_circuit_Same, f_circuit_Same_1, f_slices_EqualFunc_api_Op_api_Op_api_Op_api_Op, f_slices_Equal_int_int, f_rewrite_Reorders, f_phasorref18_takes, f_phasorref18_sets, f_phasorref18_Touch, f_phasorref18_partner, f_phasorref18_compare, f_phasorref18_less, f_phasorref18_Reorders, f_phasorref08_May, f_phasorref08_Check, f_phasorref08_Op, f_phasorref06_Check, f_phasorref06_Arity, f_phasorref06_Is, f_phasorref08_unlike, f_phasorref08_Same, f_phasorref08_SameOp, f_phasorref08_ints]
def mdRowsO : List FuncId := [f_phasorref08_Copy, f_phasorref18_without, f_phasorref18_Order]
end Go.Proofs.YtmflheoafeenfaaGreat
namespace Go.Proofs.YtmflheoafeenfaaGreat
open Go.Am
set_option maxRecDepth 4000
set_option maxHeartbeats 4000000
variable {E : Env} {L : Hp}

theorem drop_eq {α : Type} (z : α) {la lb : List α} {k : Nat} (hl : la.length = lb.length) (hk : k < la.length) : la.drop k = lb.drop k ↔ la.getD k z = lb.getD k z ∧ la.drop (k + 1) = lb.drop (k + 1) := by
  have hk' : k < lb.length := by omega
  have e1 := List.drop_eq_getElem_cons hk
  have e2 := List.drop_eq_getElem_cons hk'
  constructor
  · intro h
    rw [e1, e2] at h
    obtain ⟨h1, h2⟩ := List.cons.inj h
    exact ⟨by simpa [hk, hk'] using h1, h2⟩
  · rintro ⟨h1, h2⟩
    rw [e1, e2]
    simp only [List.cons.injEq]
    exact ⟨by simpa [hk, hk'] using h1, h2⟩

end Go.Proofs.YtmflheoafeenfaaGreat
namespace Go.Proofs.YtmflheoafeenfaaGreat
open Go.Am
set_option maxRecDepth 4000
set_option maxHeartbeats 4000000
variable {E : Env} {L : Hp}
/-- Where x lies first. -/
structure IdxI (l : List Int) (x i : Int) : Prop where
  lo : i = -1 ∨ 0 ≤ i
  no : i < 0 → ∀ j, j < l.length → l.getD j 0 ≠ x
  yes : 0 ≤ i → i.toNat < l.length ∧ l.getD i.toNat 0 = x ∧ ∀ j, j < i.toNat → l.getD j 0 ≠ x
theorem IdxI.mem {l : List Int} {x i : Int} (h : IdxI l x i) : 0 ≤ i ↔ x ∈ l := by
  constructor
  · intro h0
    obtain ⟨h1, h2, _⟩ := h.yes h0
    rw [← h2, List.getD_eq_getElem?_getD, List.getElem?_eq_getElem h1]
    exact List.getElem_mem h1
  · intro hm
    obtain ⟨j, hj, e⟩ := List.getElem_of_mem hm
    rcases h.lo with h1 | h1
    · refine absurd ?_ (h.no (by omega) j hj)
      rw [List.getD_eq_getElem?_getD, List.getElem?_eq_getElem hj]
      exact e
    · exact h1
theorem index_loop {x : Int} {v : AVal} {l : List Int} (hv : SlI v l) (hlt : l.length < 2 ^ 62) : ∀ (d k : Nat) (t : Tr AVal), d + k = l.length → t.get 0 = some v → t.get 1 = some (aint x) → t.get 7 = some (aint l.length) → t.get 8 = some (aint k) → (∀ j, j < k → l.getD j 0 ≠ x) →
    WpO E (.loop c_slices_Index_int_int_l0) t L (fun ex t' L' => L' = L ∧ ((ex = .exit 0 ∧ ∀ j, j < l.length → l.getD j 0 ≠ x) ∨ (ex = .ret ∧ ∃ i, t'.get 4 = some (aint i) ∧ IdxI l x i))) := by
  intro d
  induction d with
  | zero =>
    intro k t hk h0 h1 h7 h8 hno
    refine wo_loop ?_
    repeat (first | intro id | refine goq ?_)
    exact ⟨rfl, .inl ⟨rfl, fun j hj => hno j (by omega)⟩⟩
  | succ d ih =>
    intro k t hk h0 h1 h7 h8 hno
    refine wo_loop ?_
    repeat (first | intro id | refine goq ?_)
    refine wo_cond_if (by exact slotq) (fun hc => ?_) (fun hc => ?_) <;> (try simp only [decide_eq_true_eq, decide_eq_false_iff_not, ne_eq, Decidable.not_not] at hc)
    · repeat (first | intro id | refine goq ?_)
      exact ⟨rfl, .inr ⟨rfl, k, by exact slotq, .inr (by omega), fun h => by omega, fun _ => ⟨by omega, hc.symm, fun j hj => hno j (by omega)⟩⟩⟩
    · repeat (first | intro id | refine goq ?_)
      refine ih (k + 1) _ ?_ ?_ ?_ ?_ ?_ ?_
      · omega
      · exact slotq
      · exact slotq
      · exact slotq
      · exact slotq
      · intro j hj
        by_cases e : j = k
        · subst e; exact fun h => hc h.symm
        · exact hno j (by omega)
theorem index_ok (hF : E.fns = fnsT) (hm : E.mode f_slices_Index_int_int = .iso false) {a v : AVal} {l : List Int} {x : Int} (hw : ViewsO L [a] [v]) (hv : SlI v l) (hlt : l.length < 2 ^ 62) :
    CallO E f_slices_Index_int_int [a, aint x] L fun r L' => (∃ i, r = aint i ∧ IdxI l x i) ∧ L' = L := by
  refine callO_iso0 (R := fun r => ∃ i, r = aint i ∧ IdxI l x i) (vs := [v, aint x]) hm (fns_of hF n_slices_Index_int_int) ⟨fun m hm => ?_⟩ ?_
  · have := hw.ex m hm
    simp only [viewAll] at this ⊢
    split at this
    · rename_i h1 h2
      simp only [Option.some.injEq, List.cons.injEq] at this
      rename_i q1 q2
      cases h2
      rw [h1]
      simp only [this.1]
      rfl
    · simp at this
  refine bodyO_of (Nat.le_of_ble_eq_true rfl) ?_; generalize ht : argSlots _ 0 .nil = t; have h0 : t.get 0 = some _ := (by rw [← ht]; rfl); have h1 : t.get 1 = some _ := (by rw [← ht]; rfl); clear ht
  repeat (first | intro id | refine goq ?_)
  refine WpO.mono (index_loop (x := x) hv hlt l.length 0 _ (by omega) ?_ ?_ ?_ ?_ (fun j hj => by omega)) ?_
  · exact slotq
  · exact slotq
  · exact slotq
  · exact slotq
  rintro ex t1 L' ⟨rfl, ⟨rfl, hno⟩ | ⟨rfl, i, h4, hi⟩⟩
  · repeat (first | intro id | refine goq ?_)
    ((first | apply retO_r | apply retO_n); (focus (exact resq)))
    exact ⟨rfl, -1, rfl, .inl rfl, fun _ => hno, fun h => by omega⟩
  ·
    repeat (first | intro id | refine goq ?_)
    ((first | apply retO_r | apply retO_n); (focus (exact resq)))
    exact ⟨rfl, i, rfl, hi⟩
theorem contains_ok (hF : E.fns = fnsT) (hm : E.mode f_slices_Contains_int_int = .iso false) (hmi : E.mode f_slices_Index_int_int = .iso false) {a v : AVal} {l : List Int} {x : Int} (hw : ViewsO L [a, aint x] [v, aint x]) (hv : SlI v l) (hlt : l.length < 2 ^ 62) :
    CallO E f_slices_Contains_int_int [a, aint x] L fun r L' => r = abool (decide (x ∈ l)) ∧ L' = L := by
  refine callO_iso0 hm (fns_of hF n_slices_Contains_int_int) hw ?_
  refine bodyO_of (Nat.le_of_ble_eq_true rfl) ?_; generalize ht : argSlots _ 0 .nil = t; have h0 : t.get 0 = some _ := (by rw [← ht]; rfl); have h1 : t.get 1 = some _ := (by rw [← ht]; rfl); clear ht
  repeat (first | intro id | refine goq ?_)
  refine gok ?_
  refine (index_ok hF hmi (vs_bare (bare_SlI hv) vs_nil) hv hlt).mono ?_
  rintro r L' ⟨⟨i, rfl, hi⟩, rfl⟩
  repeat (first | intro id | refine goq ?_)
  ((first | apply retO_r | apply retO_n); (focus (exact resq)))
  refine ⟨rfl, ?_⟩
  have e : decide (0 ≤ i) = decide (x ∈ l) := by
    by_cases hx : x ∈ l
    · rw [decide_eq_true hx, decide_eq_true (hi.mem.2 hx)]
    · rw [decide_eq_false hx, decide_eq_false fun h => hx (hi.mem.1 h)]
  rw [← e]
  rfl
end Go.Proofs.YtmflheoafeenfaaGreat
namespace Go.Proofs.YtmflheoafeenfaaGreat
open Go.Am
set_option maxRecDepth 4000
set_option maxHeartbeats 4000000
variable {E : Env} {L : Hp}
end Go.Proofs.YtmflheoafeenfaaGreat
