/- Parts of the proof, joined by program: AmLib. -/
import Derived.Test.YtfaphhcloanhnaaPa4
set_option linter.unusedSimpArgs false
set_option linter.unusedVariables false
namespace Go.Am

structure OpV (s : Tr AVal) (m : Mem) (op : AOp) (v : AVal) (m' : Mem) : Prop where
  ex : opVal s m op = some (v, m')

section
variable {E : Env} {t : Tr AVal} {K : St → Prop} {l : List AO} {op : AOp} {g : Option (Option Nat × Bool)} {a d : Nat} {v : AVal} {m m' : Mem}
theorem wanted_none : wantedA t none = some true := rfl
theorem ops_s (hg : wantedA t g = some true) (hv : OpV t m op v m') (h : OpsW E l ⟨t.set d (some v), m'⟩ K) : OpsW E (⟨some d, op, g, a⟩ :: l) ⟨t, m⟩ K := ops_cons hg hv.ex h
theorem ops_n (hg : wantedA t g = some true) (hv : OpV t m op v m') (h : OpsW E l ⟨t, m'⟩ K) : OpsW E (⟨none, op, g, a⟩ :: l) ⟨t, m⟩ K := ops_cons hg hv.ex h
theorem ops_off (hg : wantedA t g = some false) (h : OpsW E l ⟨t.set d (some (.tup [])), m⟩ K) : OpsW E (⟨some d, op, g, a⟩ :: l) ⟨t, m⟩ K := ops_skip hg h
theorem ops_offn (hg : wantedA t g = some false) (h : OpsW E l ⟨t, m⟩ K) : OpsW E (⟨none, op, g, a⟩ :: l) ⟨t, m⟩ K := ops_skip hg h
/-! Memory -/
theorem new_same {b : List AVal} : (m.new (.cells b)).cells m.next = some b := by simp [Mem.cells, Mem.new, Tr.get_set]
theorem new_old {b : Box} {id : Nat} {cs : List AVal} (h : m.cells id = some cs) : (m.new b).cells id = some cs := by
  unfold Mem.cells at h ⊢
  split at h
  · rename_i hlt
    have h1 : id < (m.new b).next := by simp only [Mem.new]; omega
    rw [if_pos h1]
    simp only [Mem.new, Tr.get_set]
    rw [if_neg (by omega)]
    exact h
  · simp at h
theorem put_same {b cs : List AVal} {id : Nat} (h : m.cells id = some cs) : (m.put id (some (.cells b))).cells id = some b := by
  unfold Mem.cells at h ⊢
  split at h
  · rename_i hlt
    simp [Mem.put, hlt, Tr.get_set]
  · simp at h
theorem put_other {b : Option Box} {id j : Nat} (hne : j ≠ id) : (m.put id b).cells j = m.cells j := by
  unfold Mem.cells
  simp only [Mem.put, Tr.get_set, if_neg hne]
theorem put_old {b : Option Box} {id j : Nat} {cs : List AVal} (hne : j ≠ id) (h : m.cells j = some cs) : (m.put id b).cells j = some cs := by rw [put_other hne]; exact h
theorem cells_next {id : Nat} {cs : List AVal} (h : m.cells id = some cs) : id < m.next := by
  unfold Mem.cells at h
  split at h
  · assumption
  · simp at h
/-! Numbers -/
theorem wrap64 {x : Int} (h : -9223372036854775808 ≤ x ∧ x ≤ 9223372036854775807) : IntKind.wrap .i64 x = x := by
  unfold IntKind.wrap
  simp only [IntKind.bits, IntKind.signed]
  simp
  omega

/-! Operations -/
section
variable {s : Tr AVal} {x y z : Arg} {u : AVal} {cs : List AVal} {id off n : Nat}
theorem op_mov (hx : x.get s = some v) : OpV s m (.mov x) v m := ⟨by simp only [opVal, hx, Option.map_some]⟩
theorem op_pick_t {c : Arg} (hc : c.get s = some (abool true)) (hx : x.get s = some v) : OpV s m (.pick c x y) v m := ⟨by simp only [opVal, hc, abool, hx, Option.map_some]⟩
theorem op_pick_f {c : Arg} (hc : c.get s = some (abool false)) (hy : y.get s = some v) : OpV s m (.pick c x y) v m := ⟨by simp only [opVal, hc, abool, hy, Option.map_some]⟩
theorem op_alloc {zero : List AVal} : OpV s m (.alloc zero) (.ptr m.next 0) (m.new (.cells zero)) := ⟨rfl⟩
theorem cells_one {v : AVal} (h : v.one = true) : v.cells = [v] := by cases v <;> simp_all [AVal.one, AVal.cells]
theorem op_box (hx : x.get s = some v) (h1 : v.one = true) : OpV s m (.box x) (.ptr m.next 0) (m.new (.cells [v])) := ⟨by simp [opVal, hx, cells_one h1, h1]⟩
theorem op_boxA (hx : x.get s = some (.agg cs)) (h1 : cs.all AVal.one = true) : OpV s m (.box x) (.ptr m.next 0) (m.new (.cells cs)) := ⟨by simp only [opVal, hx, AVal.cells, h1, if_true]⟩
theorem seg_one {c : AVal} (h : cs[off]? = some c) : seg cs off 1 = some [c] := by
  have hl := (List.getElem?_eq_some_iff.1 h).1
  unfold seg
  rw [if_pos (by omega), List.drop_eq_getElem_cons hl]
  simp [(List.getElem?_eq_some_iff.1 h).2]
theorem op_load (hx : x.get s = some (.ptr id off)) (hc : m.cells id = some cs) (hv : cs[off]? = some v) : OpV s m (.load false 1 x) v m := ⟨by simp only [opVal, hx, hc, seg_one hv, asVar, Option.map_some]⟩
theorem op_loadA {r : List AVal} (hx : x.get s = some (.ptr id off)) (hc : m.cells id = some cs) (hv : seg cs off n = some r) : OpV s m (.load true n x) (.agg r) m := ⟨by simp only [opVal, hx, hc, hv, asVar, Option.map_some]⟩
theorem op_loadR (hx : x.get s = some (.ro cs)) (hv : cs[0]? = some v) : OpV s m (.load false 1 x) v m := ⟨by simp only [opVal, hx, seg_one hv, asVar, Option.map_some]⟩
theorem op_loadRA {r : List AVal} (hx : x.get s = some (.ro cs)) (hv : seg cs 0 n = some r) : OpV s m (.load true n x) (.agg r) m := ⟨by simp only [opVal, hx, hv, asVar, Option.map_some]⟩
theorem putSeg_1 (h : off < cs.length) (v : AVal) : putSeg cs off [v] = cs.set off v := by
  unfold putSeg
  rw [List.set_eq_take_append_cons_drop, if_pos h]
  simp
theorem op_store (hx : x.get s = some (.ptr id off)) (hy : y.get s = some v) (h1 : v.one = true) (hc : m.cells id = some cs) (ho : off < cs.length) : OpV s m (.store 1 x y) (.tup []) (m.put id (some (.cells (cs.set off v)))) := ⟨by
  simp only [opVal, hx, hy, cells_one h1, hc, List.length_singleton, List.all_cons, List.all_nil, h1, Bool.and_true, and_self, if_true]
  rw [if_pos (by omega), putSeg_1 ho]⟩
theorem op_storeA {r : List AVal} (hx : x.get s = some (.ptr id off)) (hy : y.get s = some (.agg r)) (hn : r.length = n) (h1 : r.all AVal.one = true) (hc : m.cells id = some cs) (ho : off + n ≤ cs.length) : OpV s m (.store n x y) (.tup []) (m.put id (some (.cells (putSeg cs off r)))) := ⟨by
  simp only [opVal, hx, hy, AVal.cells, hn, h1, hc, and_self, if_true, ho]⟩
theorem op_bin {op : BinOp} {a b : Value} (hx : x.get s = some (.sc a)) (hy : y.get s = some (.sc b)) (h : binS op a b = some v) : OpV s m (.bin op x y) v m := ⟨by simp only [opVal, hx, hy, h, Option.map_some]⟩
theorem op_eqNil {k : NK} {neg : Bool} {a b : AVal} {p q : Bool} (hx : x.get s = some a) (hy : y.get s = some b) (hp : a.nil? k = some p) (hq : b.nil? k = some q) (ho : (p || q) = true) : OpV s m (.eqNil k neg x y) (abool (if neg then !(p && q) else p && q)) m := ⟨by simp only [opVal, hx, hy, hp, hq, ho, if_true]⟩
theorem op_fieldAddr (hx : x.get s = some (.ptr id off)) : OpV s m (.fieldAddr n x) (.ptr id (off + n)) m := ⟨by simp only [opVal, hx]⟩
theorem op_fieldAddrR (hx : x.get s = some (.ro cs)) (hl : n ≤ cs.length) : OpV s m (.fieldAddr n x) (.ro (cs.drop n)) m := ⟨by simp only [opVal, hx, hl, if_true]⟩
theorem op_field (hx : x.get s = some (.agg cs)) (hv : cs[off]? = some v) : OpV s m (.field false off 1 x) v m := ⟨by simp only [opVal, hx, seg_one hv, asVar, Option.map_some]⟩
theorem op_extract {vs : List AVal} {i : Nat} (hx : x.get s = some (.tup vs)) (hv : vs[i]? = some v) : OpV s m (.extract x i) v m := ⟨by simp only [opVal, hx, hv, Option.map_some]⟩
theorem op_len (hx : x.get s = some v) (hl : sliceLen v = some n) : OpV s m (.len x) (aint (n : Int)) m := ⟨by simp only [opVal, hx, hl, Option.map_some]⟩
theorem op_makeFunc {f : Fn} {asq bs : List Arg} {a b : List AVal} (ha : argAll s asq = some a) (hb : argAll s bs = some b) : OpV s m (.makeFunc f asq bs) (.fn f a b) m := ⟨by simp only [opVal, ha, hb]⟩
theorem op_un {op : UnOp} {a r : Value} (hx : x.get s = some (.sc a)) (h : unS op a = some r) : OpV s m (.un op x) (.sc r) m := ⟨by simp only [opVal, hx, h, Option.map_some]⟩
theorem op_conv {c : Cv} {a r : Value} (hx : x.get s = some (.sc a)) (h : convS c a = some r) : OpV s m (.conv c x) (.sc r) m := ⟨by simp only [opVal, hx, h, Option.map_some]⟩
theorem op_eqNilF {k : NK} {a b : AVal} {p q : Bool} (hx : x.get s = some a) (hy : y.get s = some b) (hp : a.nil? k = some p) (hq : b.nil? k = some q) (ho : (p || q) = true) : OpV s m (.eqNil k false x y) (abool (p && q)) m := op_eqNil (neg := false) hx hy hp hq ho
theorem op_eqNilT {k : NK} {a b : AVal} {p q : Bool} (hx : x.get s = some a) (hy : y.get s = some b) (hp : a.nil? k = some p) (hq : b.nil? k = some q) (ho : (p || q) = true) : OpV s m (.eqNil k true x y) (abool !(p && q)) m := op_eqNil (neg := true) hx hy hp hq ho
/-- An element of a slice of the machine's own. -/
theorem op_indexL {len esz : Nat} {cap : Option Nat} {i : Nat} (hx : x.get s = some (.sl id off len esz cap)) (hy : y.get s = some (aint i)) (hi : i < len) : OpV s m (.indexAddr none esz x y) (.ptr id (off + i * esz)) m := ⟨by
  simp only [opVal, hx, hy, Option.bind_some, AVal.int?, aint]
  rw [if_pos ⟨by trivial, by omega, by omega⟩]
  simp⟩
/-- An element of a slice that stays. -/
theorem op_indexR {len esz : Nat} {cap : Option Nat} {i : Nat} (hx : x.get s = some (.rs cs len cap)) (hy : y.get s = some (aint i)) (hi : i < len) (hl : i * esz < cs.length) : OpV s m (.indexAddr none esz x y) (.ro (cs.drop (i * esz))) m := ⟨by
  simp only [opVal, hx, hy, Option.bind_some, AVal.int?, aint]
  rw [if_pos ⟨by omega, by omega, by simpa using hl⟩]
  simp⟩
end
end

/-! Slices that stay -/
/-- A slice, asq a row that stays, or nil. -/
def RowA (v : AVal) (cs : List AVal) (n : Nat) : Prop := (v = anil ∧ n = 0 ∧ cs = []) ∨ ∃ cap, v = .rs cs n cap
abbrev SlI (v : AVal) (l : List Int) : Prop := RowA v (l.map aint) l.length
theorem len_Row {v : AVal} {cs : List AVal} {n : Nat} (h : RowA v cs n) : sliceLen v = some n := by
  rcases h with ⟨rfl, rfl, rfl⟩ | ⟨cap, rfl⟩ <;> rfl
theorem op_indexRow {t : Tr AVal} {m : Mem} {x y : Arg} {v : AVal} {cs : List AVal} {n esz i : Nat} (hx : x.get t = some v) (h : RowA v cs n) (hy : y.get t = some (aint i)) (hi : i < n) (hl : i * esz < cs.length) : OpV t m (.indexAddr none esz x y) (.ro (cs.drop (i * esz))) m := by
  rcases h with ⟨rfl, rfl, rfl⟩ | ⟨cap, rfl⟩
  · omega
  · exact op_indexR hx hy hi hl
theorem get_ints {l : List Int} {k : Nat} (hk : k < l.length) : ((l.map aint).drop (k * 1))[0]? = some (aint (l.getD k 0)) := by
  simp [hk]

/-! More operations -/
section
variable {t : Tr AVal} {m : Mem} {x y z : Arg} {v : AVal} {cs : List AVal} {id off len esz n l : Nat} {cap : Option Nat}
theorem op_indexP {k i : Nat} (hx : x.get t = some (.ptr id off)) (hy : y.get t = some (aint i)) (hi : i < k) : OpV t m (.indexAddr (some k) esz x y) (.ptr id (off + i * esz)) m := ⟨by
  simp only [opVal, hx, hy, Option.bind_some, AVal.int?, aint]
  rw [if_pos ⟨by omega, by omega⟩]
  simp⟩
theorem op_indexO {k i : Nat} (hx : x.get t = some (.ro cs)) (hy : y.get t = some (aint i)) (hi : i < k) (hl : i * esz ≤ cs.length) : OpV t m (.indexAddr (some k) esz x y) (.ro (cs.drop (i * esz))) m := ⟨by
  simp only [opVal, hx, hy, Option.bind_some, AVal.int?, aint]
  rw [if_pos ⟨by omega, by omega, by simpa using hl⟩]
  simp⟩
theorem flatten_one (n : Nat) (z : AVal) : List.flatten (List.replicate n [z]) = List.replicate n z := by
  induction n with
  | zero => rfl
  | succ n ih => simp [List.replicate_succ, ih]
theorem op_make {bytes : Nat} {z0 : AVal} (hx : x.get t = some (aint n)) (hy : y.get t = some (aint n)) (hb : bytes * n ≤ 281474976710656) (hn : n < 281474976710657) : OpV t m (.makeSlice esz bytes [z0] x y) (.sl m.next 0 n esz (some n)) (m.new (.cells (List.replicate n z0))) := ⟨by
  simp only [opVal, hx, hy, Option.bind_some, AVal.int?, aint]
  rw [if_pos ⟨by omega, by omega, by omega, by simpa using hb⟩]
  simp [flatten_one]⟩
theorem op_buildSlice {zero : List AVal} {ps : List (Nat × Nat × Arg)} {qs : List (Nat × Nat × AVal)} (ha : argParts t ps = some qs) (hf : fillA zero qs = some cs) : OpV t m (.buildSlice esz len zero ps) (.sl m.next 0 len esz (some len)) (m.new (.cells cs)) := ⟨by simp only [opVal, ha, hf]⟩
theorem op_build {zero : List AVal} {ps : List (Nat × Nat × Arg)} {qs : List (Nat × Nat × AVal)} (ha : argParts t ps = some qs) (hf : fillA zero qs = some cs) : OpV t m (.build zero ps) (.agg cs) m := ⟨by simp only [opVal, ha, hf, Option.map_some]⟩
theorem op_eqBool {neg a b : Bool} (hx : x.get t = some (.sc (.bool a))) (hy : y.get t = some (.sc (.bool b))) : OpV t m (.eqBool neg x y) (abool (if neg then a != b else a == b)) m := ⟨by simp only [opVal, hx, hy]⟩
theorem op_eqAgg {neg b : Bool} {ls : List LK} {asq bs : List AVal} (hx : x.get t = some (.agg asq)) (hy : y.get t = some (.agg bs)) (h : sameAll ls asq bs = some b) : OpV t m (.eqAgg neg ls x y) (abool (if neg then !b else b)) m := ⟨by simp only [opVal, hx, hy, h, Option.map_some]⟩
theorem op_eqAggF {b : Bool} {ls : List LK} {asq bs : List AVal} (hx : x.get t = some (.agg asq)) (hy : y.get t = some (.agg bs)) (h : sameAll ls asq bs = some b) : OpV t m (.eqAgg false ls x y) (abool b) m := op_eqAgg (neg := false) hx hy h
theorem op_eqAggT {b : Bool} {ls : List LK} {asq bs : List AVal} (hx : x.get t = some (.agg asq)) (hy : y.get t = some (.agg bs)) (h : sameAll ls asq bs = some b) : OpV t m (.eqAgg true ls x y) (abool !b) m := op_eqAgg (neg := true) hx hy h
theorem op_eqBoolF {a b : Bool} (hx : x.get t = some (.sc (.bool a))) (hy : y.get t = some (.sc (.bool b))) : OpV t m (.eqBool false x y) (abool (a == b)) m := op_eqBool (neg := false) hx hy
theorem op_eqBoolT {a b : Bool} (hx : x.get t = some (.sc (.bool a))) (hy : y.get t = some (.sc (.bool b))) : OpV t m (.eqBool true x y) (abool (a != b)) m := op_eqBool (neg := true) hx hy
theorem op_indexAgg {len esz i : Nat} {cs r : List AVal} (hx : x.get t = some (.agg cs)) (hy : y.get t = some (aint i)) (hi : i < len) (hs : seg cs (i * esz) esz = some r) : OpV t m (.index true len esz x y) (.agg r) m := ⟨by
  simp only [opVal, hx, hy, Option.bind_some, AVal.int?, aint]
  rw [if_pos ⟨by omega, by omega⟩]
  simp [hs, asVar]⟩
theorem op_nilCheck {id off : Nat} (hx : x.get t = some (.ptr id off)) : OpV t m (.nilCheck x) (.ptr id off) m := ⟨by simp only [opVal, hx]⟩
theorem op_lenC : OpV t m (.lenC n) (aint n) m := ⟨rfl⟩
theorem op_lenStr {b : ByteArray} (hx : x.get t = some (.sc (.string b))) : OpV t m (.lenStr x) (aint (b.size : Nat)) m := ⟨by simp only [opVal, hx]⟩

/-- A slice that can be appended to: nil, or of the machine's own, or a row without room. -/
inductive AppA (m : Mem) (esz : Nat) : AVal → List AVal → Nat → Mem → Prop where
  | nil : AppA m esz anil [] 0 m
  | full {id off len : Nat} {cs r : List AVal} (h : m.cells id = some cs) (hs : seg cs off (len * esz) = some r) : AppA m esz (.sl id off len esz (some len)) r len m
  | room {id off len : Nat} {cs r : List AVal} (h : m.cells id = some cs) (hs : seg cs off (len * esz) = some r) (ht : cs.length ≤ off + len * esz) : AppA m esz (.sl id off len esz none) r len (m.put id none)
  | row {cs r : List AVal} {len : Nat} (hs : seg cs 0 (len * esz) = some r) : AppA m esz (.rs cs len (some len)) r len m
theorem op_append {bytes k : Nat} {a b : AVal} {old new : List AVal} {m1 : Mem} (hx : x.get t = some a) (hy : y.get t = some b) (ha : AppA m esz a old k m1) (hl : sliceLen b = some n) (hb : sliceCells m esz n b = some new) (h0 : 0 < n) (hr : (k + n) * bytes ≤ 140737488355328) (hr' : k + n ≤ 140737488355328) (h1 : new.all AVal.one = true) (h2 : old.all AVal.one = true) :
    OpV t m (.append esz bytes x y) (.sl m.next 0 (k + n) esz none) (m1.new (.cells (old ++ new))) := ⟨by
  have hk : sliceLen a = some k := by cases ha <;> rfl
  have hc : sliceCells m esz k a = some old := by
    cases ha with
    | nil => rfl
    | full h hs => simp only [sliceCells, if_true, h, hs]
    | room h hs ht => simp only [sliceCells, if_true, h, hs]
    | row hs => simp only [sliceCells, hs]
  simp only [opVal, hx, hy, hk, hl, hc, hb]
  rw [if_neg (by omega), if_pos ⟨hr, hr', h1, h2⟩]
  cases ha with
  | nil => rfl
  | full h hs => simp
  | @room id off len cs r h hs ht =>
    have e : cs.drop (off + (k + n) * esz) = [] := List.drop_of_length_le (by rw [Nat.add_mul]; omega)
    simp only [reduceCtorEq, if_false, if_true, h, e, List.append_nil, Mem.put]
  | row hs => simp⟩
/-- Nothing is appended. -/
theorem op_append0 {bytes k : Nat} {a b : AVal} (hx : x.get t = some a) (hy : y.get t = some b) (hk : sliceLen a = some k) (hl : sliceLen b = some 0) : OpV t m (.append esz bytes x y) a m := ⟨by
  simp only [opVal, hx, hy, hk, hl, if_true]⟩

theorem op_sliceLo {lo : Nat} (hx : x.get t = some (.sl id off len esz cap)) (hy : y.get t = some (aint lo)) (hl : lo ≤ len) : OpV t m (.slice esz x (some y) none none) (.sl id (off + lo * esz) (len - lo) esz (cap.map (· - lo))) m := ⟨by
  simp only [opVal, hx, hy, argOpt, AVal.int?, aint, Option.map_some, if_true, bounds3]
  rw [if_pos ⟨by omega, by omega⟩]
  simp⟩
theorem op_sliceHi {hi : Nat} (hx : x.get t = some (.sl id off len esz cap)) (hy : y.get t = some (aint hi)) (hl : hi ≤ len) : OpV t m (.slice esz x none (some y) none) (.sl id off hi esz cap) m := ⟨by
  simp only [opVal, hx, hy, argOpt, AVal.int?, aint, Option.map_some, if_true, bounds3]
  rw [if_pos ⟨by omega, by simp [upTo, hl]⟩]
  cases cap <;> simp⟩
theorem op_sliceHiR {hi : Nat} {r : List AVal} (hx : x.get t = some (.rs cs len cap)) (hy : y.get t = some (aint hi)) (hl : hi ≤ len) (hr : seg cs 0 (hi * esz) = some r) : OpV t m (.slice esz x none (some y) none) (.rs r hi cap) m := ⟨by
  simp only [opVal, hx, hy, argOpt, AVal.int?, aint, Option.map_some, bounds3]
  rw [if_pos ⟨by omega, by simp [upTo, hl]⟩]
  simp [hr]⟩
/-- The head of a row of numbers. -/
def hiI (v : AVal) (l : List Int) (k : Nat) : AVal := match v with
  | .rs _ _ cap => .rs ((l.take k).map aint) k cap
  | v => v
theorem hiI_is {v : AVal} {l : List Int} {k : Nat} (h : SlI v l) (hk : k ≤ l.length) : SlI (hiI v l k) (l.take k) := by
  rcases h with ⟨rfl, h0, h1⟩ | ⟨cap, rfl⟩
  · have : l = [] := List.eq_nil_of_length_eq_zero h0
    subst this
    exact .inl ⟨rfl, by simp, by simp⟩
  · exact .inr ⟨cap, by simp [hiI, Nat.min_eq_left hk]⟩
theorem op_sliceHiI {hi : Nat} {v : AVal} {l : List Int} (hx : x.get t = some v) (h : SlI v l) (hy : y.get t = some (aint hi)) (hl : hi ≤ l.length) : OpV t m (.slice 1 x none (some y) none) (hiI v l hi) m := by
  rcases h with ⟨rfl, h0, h1⟩ | ⟨cap, rfl⟩
  · have : l = [] := List.eq_nil_of_length_eq_zero h0
    subst this
    obtain rfl : hi = 0 := by simpa using hl
    exact ⟨by simp [opVal, hx, hy, argOpt, AVal.int?, aint, bounds3, upTo, anil, hiI]⟩
  · have hs : seg (l.map aint) 0 (hi * 1) = some ((l.take hi).map aint) := by
      rw [seg, if_pos (by simp; omega)]
      simp [List.map_take]
    exact op_sliceHiR hx hy hl hs
theorem op_clear {zero : List AVal} (hx : x.get t = some (.sl id off len esz cap)) (h0 : 0 < len) (hc : m.cells id = some cs) (hl : off + len * esz ≤ cs.length) : OpV t m (.clear esz zero x) (.tup []) (m.put id (some (.cells (putSeg cs off (List.flatten (List.replicate len zero)))))) := ⟨by
  simp only [opVal, hx]
  rw [if_neg (by omega)]
  simp only [if_true, hc, hl]⟩
/-! A guard that is not known -/
theorem wanted_tup {d : Nat} {want : Bool} (h : t.get d = some (.tup [])) : wantedA t (some (some d, want)) = some false := by simp only [wantedA, h]
theorem wanted_some {d : Nat} {b want r : Bool} (h : t.get d = some (.sc (.bool b))) (hr : (b == want) = r) : wantedA t (some (some d, want)) = some r := by
  simp only [wantedA, h, hr]
end

/-! Memory that grows -/
/-- What lay there lies there. -/
def Kept (m m' : Mem) : Prop := m.next ≤ m'.next ∧ ∀ id cs, m.cells id = some cs → m'.cells id = some cs
theorem Kept.refl (m : Mem) : Kept m m := ⟨Nat.le_refl _, fun _ _ h => h⟩
theorem Kept.trans {a b c : Mem} (h : Kept a b) (k : Kept b c) : Kept a c := ⟨Nat.le_trans h.1 k.1, fun id cs hc => k.2 id cs (h.2 id cs hc)⟩
theorem Kept.new {m m' : Mem} {b : Box} (h : Kept m m') : Kept m (m'.new b) := ⟨Nat.le_succ_of_le h.1, fun id cs hc => new_old (h.2 id cs hc)⟩
theorem Kept.put {m m' : Mem} {b : Option Box} {id : Nat} (h : Kept m m') (hid : m.next ≤ id) : Kept m (m'.put id b) := ⟨h.1, fun j cs hc => put_old (by have := cells_next hc; omega) (h.2 j cs hc)⟩
theorem AppA.next {m m1 : Mem} {esz k : Nat} {a : AVal} {old : List AVal} (h : AppA m esz a old k m1) : m1.next = m.next := by cases h <;> rfl

/-! Calls and answers -/
section
variable {E : Env} {t : Tr AVal} {m : Mem} {K : St → Prop} {l : List AO} {g : Option (Option Nat × Bool)} {a d : Nat}
theorem argAll_nil : argAll t [] = some [] := rfl
theorem argAll_cons {x : Arg} {r : List Arg} {v : AVal} {vs : List AVal} (hx : x.get t = some v) (hr : argAll t r = some vs) : argAll t (x :: r) = some (v :: vs) := by simp only [argAll, hx, hr]
theorem argParts_nil : argParts t [] = some [] := rfl
theorem argParts_cons {o n : Nat} {x : Arg} {r : List (Nat × Nat × Arg)} {v : AVal} {vs : List (Nat × Nat × AVal)} (hx : x.get t = some v) (hr : argParts t r = some vs) : argParts t ((o, n, x) :: r) = some ((o, n, v) :: vs) := by simp only [argParts, hx, hr]
theorem ops_ck {asq : List Arg} {n : FuncId} {vs : List AVal} (hg : wantedA t g = some true) (ha : argAll t asq = some vs) (h : CallW E n vs m fun v m' => OpsW E l ⟨t.set d (some v), m'⟩ K) : OpsW E (⟨some d, .call (.k (.fn (.func n) [] [])) asq, g, a⟩ :: l) ⟨t, m⟩ K :=
  ops_call hg rfl rfl ha (by rw [List.nil_append, List.append_nil]; exact h)
theorem ops_ckn {asq : List Arg} {n : FuncId} {vs : List AVal} (hg : wantedA t g = some true) (ha : argAll t asq = some vs) (h : CallW E n vs m fun v m' => OpsW E l ⟨t, m'⟩ K) : OpsW E (⟨none, .call (.k (.fn (.func n) [] [])) asq, g, a⟩ :: l) ⟨t, m⟩ K :=
  ops_call hg rfl rfl ha (by rw [List.nil_append, List.append_nil]; exact h)
/-- A call through a value. -/
theorem ops_cv {x : Arg} {asq : List Arg} {n : FuncId} {cap vs : List AVal} (hg : wantedA t g = some true) (hf : x.get t = some (.fn (.func n) [] cap)) (ha : argAll t asq = some vs) (h : CallW E n (vs ++ cap) m fun v m' => OpsW E l ⟨t.set d (some v), m'⟩ K) : OpsW E (⟨some d, .call x asq, g, a⟩ :: l) ⟨t, m⟩ K :=
  ops_call hg rfl hf ha (by rw [List.nil_append]; exact h)

theorem res_tmp {s : St} {n : Nat} {r : List AR} {v : AVal} {vs : List AVal} (h : s.slots.get n = some v) (hr : results1 s r = some vs) : results1 s (.tmp n :: r) = some (v :: vs) := by simp only [results1, h, hr]
theorem res_cell {s : St} {n id off : Nat} {r : List AR} {cs : List AVal} {v : AVal} {vs : List AVal} (h : s.slots.get n = some (.ptr id off)) (hc : s.mem.cells id = some cs) (hv : cs[off]? = some v) (hr : results1 s r = some vs) : results1 s (.cell false 1 n :: r) = some (v :: vs) := by
  simp only [results1, h, hc, seg_one hv, asVar, hr]
theorem res_cellA {s : St} {n k id off : Nat} {r : List AR} {cs x : List AVal} {vs : List AVal} (h : s.slots.get n = some (.ptr id off)) (hc : s.mem.cells id = some cs) (hv : seg cs off k = some x) (hr : results1 s r = some vs) : results1 s (.cell true k n :: r) = some (.agg x :: vs) := by
  simp only [results1, h, hc, hv, asVar, hr]
variable {f : FuncId} {fn : AFn} {args vs : List AVal}
/-- By itself; its answer has no address. -/
theorem call_iso0 {R : AVal → Prop} (hm : E.mode f = .iso false) (hf : E.fns f = some fn) (hv : viewAll m args = some vs) (h : BodyW E fn vs ⟨.nil, 0, 0⟩ fun v _ => v.flat = true ∧ R v) : CallW E f args m fun v m' => R v ∧ m' = m :=
  call_flat hm hf hv (h.mono fun v _ h => ⟨by rw [h.1]; rfl, h.2, rfl⟩)
/-- By itself; its answer is laid asq rows. -/
theorem call_iso1 {R : AVal → Prop} (hm : E.mode f = .iso true) (hf : E.fns f = some fn) (hb : args.all AVal.bare = true) (h : BodyW E fn args ⟨.nil, 0, 0⟩ fun v m' => ∃ u, view m' 64 v = some u ∧ R u) : CallW E f args m fun v m' => R v ∧ m' = m :=
  call_frz (vs := args) hm hf hb (h.mono fun v m' ⟨u, h1, h2⟩ => ⟨u, h1, h2, rfl⟩) (viewAll_of_bare hb)

theorem va_bare {v: AVal} {r rs : List AVal} (hv : v.bare = true) (hr : viewAll m r = some rs) : viewAll m (v :: r) = some (v :: rs) := by simp only [viewAll, hv, if_true, hr]
theorem va_view {v u : AVal} {r rs : List AVal} (hv : v.bare = false) (hu : view m 64 v = some u) (hr : viewAll m r = some rs) : viewAll m (v :: r) = some (u :: rs) := by simp only [viewAll, hv, hu, hr]; rfl

theorem view_sc {k : Nat} {v : Value} : view m (k + 1) (.sc v) = some (.sc v) := rfl
theorem mapM_view_sc {k : Nat} : ∀ (l : List AVal), (∀ c ∈ l, ∃ v, c = .sc v) → l.mapM (view m (k + 1)) = some l
  | [], _ => rfl
  | c :: l, h => by
    obtain ⟨v, rfl⟩ := h c (by simp)
    rw [List.mapM_cons, view_sc, mapM_view_sc l fun c hc => h c (by simp [hc])]
    rfl
theorem view_sl {k id off len esz : Nat} {cap : Option Nat} {cs r r' : List AVal} (hc : m.cells id = some cs) (hs : seg cs off (len * esz) = some r) (hr : r.mapM (view m k) = some r') : view m (k + 1) (.sl id off len esz cap) = some (.rs r' len cap) := by
  simp only [view, hc, hs, hr, Option.map_some]
theorem view_agg {k : Nat} {cs r : List AVal} (hr : cs.mapM (view m k) = some r) : view m (k + 1) (.agg cs) = some (.agg r) := by simp only [view, hr, Option.map_some]
theorem view_tup {k : Nat} {cs r : List AVal} (hr : cs.mapM (view m k) = some r) : view m (k + 1) (.tup cs) = some (.tup r) := by simp only [view, hr, Option.map_some]
theorem mapM_view_nil {k : Nat} : ([] : List AVal).mapM (view m k) = some [] := rfl
theorem mapM_view_cons {k : Nat} {v u : AVal} {l r : List AVal} (hv : view m k v = some u) (hl : l.mapM (view m k) = some r) : (v :: l).mapM (view m k) = some (u :: r) := by
  rw [List.mapM_cons, hv, hl]; rfl
end
section
theorem bareAll_of {l : List AVal} (h : ∀ c ∈ l, c.bare = true) : bareAll l = true := by
  induction l with
  | nil => rfl
  | cons c l ih => simp only [bareAll, Bool.and_eq_true]; exact ⟨h c (by simp), ih fun c hc => h c (by simp [hc])⟩
theorem bare_Row {v : AVal} {cs : List AVal} {n : Nat} (h : RowA v cs n) (hb : ∀ c ∈ cs, c.bare = true) : v.bare = true := by
  rcases h with ⟨rfl, _⟩ | ⟨cap, rfl⟩
  · rfl
  · exact bareAll_of hb
theorem bare_SlI {v : AVal} {l : List Int} (h : SlI v l) : v.bare = true := bare_Row h fun c hc => by obtain ⟨n, _, rfl⟩ := List.mem_map.1 hc; rfl
theorem all_one_ints (l : List Int) : (l.map aint).all AVal.one = true := List.all_eq_true.2 fun c hc => by obtain ⟨n, _, rfl⟩ := List.mem_map.1 hc; rfl
theorem getElem?_ints {l : List Int} {k : Nat} (h : k < l.length) : (l.map aint)[k]? = some (aint (l.getD k 0)) := by simp [h]
theorem set_ints (l : List Int) (k : Nat) (x : Int) : (l.map aint).set k (aint x) = (l.set k x).map aint := by rw [List.map_set]
end

/-! Whole numbers -/
section
variable {t : Tr AVal} {m : Mem} {x y : Arg} {a b : Int}
theorem op_inc {a : Nat} (hx : x.get t = some (aint a)) (hb : a + 1 < 9223372036854775808) : OpV t m (.bin .add x (.k (.sc (.int .i64 1)))) (aint ((a + 1 : Nat) : Int)) m := ⟨by
  simp only [opVal, hx, show (Arg.k (AVal.sc (.int .i64 1))).get t = some (AVal.sc (.int .i64 1)) from rfl, aint]
  show some (AVal.sc (.int .i64 (IntKind.wrap .i64 ((a : Int) + 1))), m) = _
  rw [wrap64 (by omega)]
  rfl⟩
theorem op_dec {a : Nat} (hx : x.get t = some (aint a)) (h0 : 0 < a) (hb : a < 9223372036854775808) : OpV t m (.bin .sub x (.k (.sc (.int .i64 1)))) (aint ((a - 1 : Nat) : Int)) m := ⟨by
  simp only [opVal, hx, show (Arg.k (AVal.sc (.int .i64 1))).get t = some (AVal.sc (.int .i64 1)) from rfl, aint]
  show some (AVal.sc (.int .i64 (IntKind.wrap .i64 ((a : Int) - 1))), m) = _
  rw [wrap64 (by omega), show ((a - 1 : Nat) : Int) = (a : Int) - 1 by omega]⟩
theorem op_addI (hx : x.get t = some (aint a)) (hy : y.get t = some (aint b)) (h : -9223372036854775808 ≤ a + b ∧ a + b ≤ 9223372036854775807) : OpV t m (.bin .add x y) (aint (a + b)) m := ⟨by
  simp only [opVal, hx, hy, aint]
  show some (AVal.sc (.int .i64 (IntKind.wrap .i64 (a + b))), m) = _
  rw [wrap64 h]⟩
theorem op_subI (hx : x.get t = some (aint a)) (hy : y.get t = some (aint b)) (h : -9223372036854775808 ≤ a - b ∧ a - b ≤ 9223372036854775807) : OpV t m (.bin .sub x y) (aint (a - b)) m := ⟨by
  simp only [opVal, hx, hy, aint]
  show some (AVal.sc (.int .i64 (IntKind.wrap .i64 (a - b))), m) = _
  rw [wrap64 h]⟩
theorem op_mulI (hx : x.get t = some (aint a)) (hy : y.get t = some (aint b)) (h : -9223372036854775808 ≤ a * b ∧ a * b ≤ 9223372036854775807) : OpV t m (.bin .mul x y) (aint (a * b)) m := ⟨by
  simp only [opVal, hx, hy, aint]
  show some (AVal.sc (.int .i64 (IntKind.wrap .i64 (a * b))), m) = _
  rw [wrap64 h]⟩
theorem op_lssI (hx : x.get t = some (aint a)) (hy : y.get t = some (aint b)) : OpV t m (.bin .lss x y) (abool (decide (a < b))) m := ⟨by simp only [opVal, hx, hy, aint]; rfl⟩
theorem op_leqI (hx : x.get t = some (aint a)) (hy : y.get t = some (aint b)) : OpV t m (.bin .leq x y) (abool (decide (a ≤ b))) m := ⟨by simp only [opVal, hx, hy, aint]; rfl⟩
theorem op_gtrI (hx : x.get t = some (aint a)) (hy : y.get t = some (aint b)) : OpV t m (.bin .gtr x y) (abool (decide (b < a))) m := ⟨by simp only [opVal, hx, hy, aint]; rfl⟩
theorem op_geqI (hx : x.get t = some (aint a)) (hy : y.get t = some (aint b)) : OpV t m (.bin .geq x y) (abool (decide (b ≤ a))) m := ⟨by simp only [opVal, hx, hy, aint]; rfl⟩
theorem op_eqlI (hx : x.get t = some (aint a)) (hy : y.get t = some (aint b)) : OpV t m (.bin .eql x y) (abool (decide (a = b))) m := ⟨by
  simp only [opVal, hx, hy, aint]
  show some (AVal.sc (.bool (a == b)), m) = _
  rw [show (a == b) = decide (a = b) from rfl]; rfl⟩
theorem op_neqI (hx : x.get t = some (aint a)) (hy : y.get t = some (aint b)) : OpV t m (.bin .neq x y) (abool (decide (a ≠ b))) m := ⟨by
  simp only [opVal, hx, hy, aint]
  show some (AVal.sc (.bool (a != b)), m) = _
  rw [show (a != b) = decide (a ≠ b) by by_cases h : a = b <;> simp [h, bne]]; rfl⟩
end

/-! Rows of pairs -/
section
/-- The cells of pairs. -/
def pcells : List (Int × Int) → List AVal
  | [] => []
  | p :: r => aint p.1 :: aint p.2 :: pcells r
theorem pcells_length : ∀ l : List (Int × Int), (pcells l).length = 2 * l.length
  | [] => rfl
  | p :: r => by simp [pcells, pcells_length r]; omega
theorem pcells_drop : ∀ (l : List (Int × Int)) (k : Nat), (pcells l).drop (k * 2) = pcells (l.drop k)
  | l, 0 => by simp
  | [], k + 1 => by simp [pcells]
  | p :: r, k + 1 => by
    rw [show (k + 1) * 2 = k * 2 + 1 + 1 by omega, pcells, List.drop_succ_cons, List.drop_succ_cons, pcells_drop r k, List.drop_succ_cons]
/-- The pair at hand. -/
theorem pcells_at {l : List (Int × Int)} {k : Nat} (h : k < l.length) : (pcells l).drop (k * 2) = aint (l.getD k (0, 0)).1 :: aint (l.getD k (0, 0)).2 :: pcells (l.drop (k + 1)) := by
  rw [pcells_drop, List.drop_eq_getElem_cons h, pcells]
  simp [h]
theorem get_pair1 {l : List (Int × Int)} {k : Nat} (h : k < l.length) : (((pcells l).drop (k * 2)).drop (1 * 1))[0]? = some (aint (l.getD k (0, 0)).2) := by rw [pcells_at h]; rfl
theorem get_pair00 {l : List (Int × Int)} {k : Nat} (h : k < l.length) : (((pcells l).drop (k * 2)).drop (0 * 1))[0]? = some (aint (l.getD k (0, 0)).1) := by rw [pcells_at h]; rfl
theorem seg_pair {l : List (Int × Int)} {k : Nat} (h : k < l.length) : seg ((pcells l).drop (k * 2)) 0 2 = some [aint (l.getD k (0, 0)).1, aint (l.getD k (0, 0)).2] := by rw [pcells_at h]; simp [seg]
abbrev SlP (v : AVal) (l : List (Int × Int)) : Prop := RowA v (pcells l) l.length
theorem bare_pcells : ∀ (l : List (Int × Int)), ∀ c ∈ pcells l, c.bare = true
  | [], c, h => by simp [pcells] at h
  | p :: r, c, h => by
    simp only [pcells, List.mem_cons] at h
    rcases h with rfl | rfl | h
    · rfl
    · rfl
    · exact bare_pcells r c h
theorem bare_SlP {v : AVal} {l : List (Int × Int)} (h : SlP v l) : v.bare = true := bare_Row h (bare_pcells l)
theorem le_pcells {l : List (Int × Int)} {k : Nat} (h : k < l.length) : k * 2 < (pcells l).length := by rw [pcells_length]; omega
theorem le_pcells2 {l : List (Int × Int)} {k j : Nat} (h : k < l.length) (hj : j ≤ 2) : j ≤ ((pcells l).drop (k * 2)).length := by rw [List.length_drop, pcells_length]; omega
end

/-! A slice that is appended to, and by nobody else -/
/-- nil, or all of a box of its own (of those from b on). -/
inductive Buf (b : Nat) (m : Mem) (esz : Nat) : AVal → List AVal → Nat → Prop where
  | nil : Buf b m esz anil [] 0
  | box {id n : Nat} {cs : List AVal} (h : m.cells id = some cs) (hb : b ≤ id) (hl : cs.length = n * esz) (h1 : cs.all AVal.one = true) : Buf b m esz (.sl id 0 n esz none) cs n
def bufDrop (m : Mem) : AVal → Mem
  | .sl id _ _ _ _ => m.put id none
  | _ => m
section
variable {b n esz bytes j : Nat} {t : Tr AVal} {m m0 : Mem} {x y : Arg} {a : AVal} {cs nw : List AVal}
theorem seg_full {cs : List AVal} {n : Nat} (h : cs.length = n) : seg cs 0 n = some cs := by subst h; simp [seg]
theorem Buf.app (hb : Buf b m esz a cs n) : AppA m esz a cs n (bufDrop m a) := by
  cases hb with
  | nil => exact .nil
  | box h hb hl h1 => exact .room h (seg_full hl) (by omega)
theorem Buf.one (hb : Buf b m esz a cs n) : cs.all AVal.one = true := by
  cases hb with
  | nil => rfl
  | box h hb hl h1 => exact h1
theorem Buf.length (hb : Buf b m esz a cs n) : cs.length = n * esz := by
  cases hb with
  | nil => simp
  | box h hb hl h1 => exact hl
theorem bufDrop_next (hb : Buf b m esz a cs n) : (bufDrop m a).next = m.next := by cases hb <;> rfl
theorem Buf.pushed (hb : Buf b m esz a cs n) (hl : nw.length = esz) (h1 : nw.all AVal.one = true) (hn : b ≤ m.next) : Buf b ((bufDrop m a).new (.cells (cs ++ nw))) esz (.sl m.next 0 (n + 1) esz none) (cs ++ nw) (n + 1) := by
  refine .box ?_ hn ?_ ?_
  · rw [← bufDrop_next hb]; exact new_same
  · rw [List.length_append, hb.length, hl, Nat.add_mul, Nat.one_mul]
  · rw [List.all_append, hb.one, h1]; rfl
theorem Buf.new (hb : Buf b m esz a cs n) {bx : Box} : Buf b (m.new bx) esz a cs n := by
  cases hb with
  | nil => exact .nil
  | box h hb hl h1 => exact .box (new_old h) hb hl h1
theorem Buf.put (hb : Buf b m esz a cs n) {bx : Option Box} {id : Nat} (hid : id < b) : Buf b (m.put id bx) esz a cs n := by
  cases hb with
  | nil => exact .nil
  | box h hb hl h1 => exact .box (put_old (by omega) h) hb hl h1
theorem Kept.drop (hk : Kept m0 m) (hb : Buf b m esz a cs n) (h : m0.next ≤ b) : Kept m0 (bufDrop m a) := by
  cases hb with
  | nil => exact hk
  | box h' hb hl h1 => exact hk.put (by omega)
theorem Buf.mono (hb : Buf b m esz a cs n) {b' : Nat} (h : b' ≤ b) : Buf b' m esz a cs n := by
  cases hb with
  | nil => exact .nil
  | box h' hb hl h1 => exact .box h' (by omega) hl h1
/-- As a row. -/
theorem Buf.view (hb : Buf b m esz a cs n) {k : Nat} (h : ∀ c ∈ cs, ∃ v, c = .sc v) : ∃ u, view m (k + 2) a = some u ∧ RowA u cs n := by
  cases hb with
  | nil => exact ⟨anil, rfl, .inl ⟨rfl, rfl, rfl⟩⟩
  | box h' hb hl h1 => exact ⟨.rs cs n none, view_sl h' (seg_full (by omega)) (mapM_view_sc _ h), .inr ⟨none, rfl⟩⟩
theorem sc_ints (l : List Int) : ∀ c ∈ l.map aint, ∃ v, c = .sc v := fun c hc => by obtain ⟨n, _, rfl⟩ := List.mem_map.1 hc; exact ⟨_, rfl⟩
end

section
variable {E : Env} {f : FuncId} {fn : AFn} {args : List AVal} {m : Mem} {R : AVal → Mem → Prop}
theorem Buf.kept {b n esz : Nat} {m m' : Mem} {a : AVal} {cs : List AVal} (hb : Buf b m esz a cs n) (h : Kept m m') : Buf b m' esz a cs n := by
  cases hb with
  | nil => exact .nil
  | box h' hb hl h1 => exact .box (h.2 _ _ h') hb hl h1
/-- A map: its places, its pairs. -/
def MapA (v : AVal) (N : Int) (ps : List (Int × Int)) : Prop := ∃ s, v = .agg [aint N, s] ∧ SlP s ps
theorem bare_MapA {v : AVal} {N : Int} {ps : List (Int × Int)} (h : MapA v N ps) : v.bare = true := by
  obtain ⟨s, rfl, h⟩ := h
  simp only [AVal.bare, bareAll, bare_SlP h]
  rfl
end

theorem Kept.get {m m' : Mem} (h : Kept m m') {id : Nat} {cs : List AVal} (hc : m.cells id = some cs) : m'.cells id = some cs := h.2 _ _ hc

theorem Buf.isOne {b n esz : Nat} {m : Mem} {a : AVal} {cs : List AVal} (hb : Buf b m esz a cs n) : a.one = true := by cases hb <;> rfl
theorem RowA.isOne {v : AVal} {cs : List AVal} {n : Nat} (h : RowA v cs n) : v.one = true := by rcases h with ⟨rfl, _⟩ | ⟨cap, rfl⟩ <;> rfl
theorem fillA_nilE {cs cs' : List AVal} (h : cs = cs') : fillA cs [] = some cs' := by rw [← h]; rfl
theorem fillA_one {cs cs' : List AVal} {off : Nat} {v : AVal} {r : List (Nat × Nat × AVal)} (h1 : v.one = true) (hl : off + 1 ≤ cs.length) (h : fillA (cs.set off v) r = some cs') : fillA cs ((off, 1, v) :: r) = some cs' := by
  unfold fillA
  rw [cells_one h1]
  simp only [List.length_singleton, List.all_cons, List.all_nil, h1, Bool.and_true, hl, and_self, if_true]
  rw [putSeg_1 (by omega)]
  exact h
theorem fillA_agg {cs cs' xs : List AVal} {off n : Nat} {r : List (Nat × Nat × AVal)} (hn : xs.length = n) (hl : off + n ≤ cs.length) (h1 : xs.all AVal.one = true) (h : fillA (putSeg cs off xs) r = some cs') : fillA cs ((off, n, .agg xs) :: r) = some cs' := by
  unfold fillA
  simp only [AVal.cells, hn, h1, hl, and_self, if_true]
  exact h
theorem all_one_nil : ([] : List AVal).all AVal.one = true := rfl
theorem all_one_cons {v : AVal} {l : List AVal} (h : v.one = true) (hl : l.all AVal.one = true) : (v :: l).all AVal.one = true := by simp only [List.all_cons, h, hl, Bool.and_self]

section
variable {t : Tr AVal} {m : Mem} {x y : Arg} {a b : Nat}
theorem op_rem (hx : x.get t = some (aint a)) (hy : y.get t = some (aint b)) (h0 : 0 < b) : OpV t m (.bin .rem x y) (aint ((a % b : Nat) : Int)) m := ⟨by
  simp only [opVal, hx, hy, aint, binS, binOp]
  simp only [ne_eq, not_true, if_false, Op.intDiv]
  rw [if_neg (by omega)]
  show some (AVal.sc (.int .i64 (Int.tmod a b)), m) = _
  rw [Int.ofNat_tmod]⟩
theorem op_quo (hx : x.get t = some (aint a)) (hy : y.get t = some (aint b)) (h0 : 0 < b) (ha : a < 9223372036854775808) : OpV t m (.bin .quo x y) (aint ((a / b : Nat) : Int)) m := ⟨by
  simp only [opVal, hx, hy, aint, binS, binOp]
  simp only [ne_eq, not_true, if_false, Op.intDiv]
  rw [if_neg (by omega)]
  show some (AVal.sc (.int .i64 (IntKind.wrap .i64 (Int.tdiv a b))), m) = _
  have : a / b ≤ a := Nat.div_le_self a b
  generalize hq : a / b = q at this
  rw [← Int.ofNat_tdiv, hq, wrap64 ⟨by omega, by omega⟩]⟩
theorem op_addN (hx : x.get t = some (aint a)) (hy : y.get t = some (aint b)) (h : a + b < 9223372036854775808) : OpV t m (.bin .add x y) (aint ((a + b : Nat) : Int)) m := ⟨by
  simp only [opVal, hx, hy, aint]
  show some (AVal.sc (.int .i64 (IntKind.wrap .i64 ((a : Int) + b))), m) = _
  rw [wrap64 (by omega), show ((a + b : Nat) : Int) = (a : Int) + b by omega]⟩
theorem op_mulN (hx : x.get t = some (aint a)) (hy : y.get t = some (aint b)) (h : a * b < 9223372036854775808) : OpV t m (.bin .mul x y) (aint ((a * b : Nat) : Int)) m := ⟨by
  simp only [opVal, hx, hy, aint]
  show some (AVal.sc (.int .i64 (IntKind.wrap .i64 ((a : Int) * b))), m) = _
  rw [← Int.natCast_mul, wrap64 (by omega)]⟩
end

section
variable {t : Tr AVal} {m : Mem} {x y : Arg} {a b : Int}
theorem op_lssT (hx : x.get t = some (aint a)) (hy : y.get t = some (aint b)) (h : a < b) : OpV t m (.bin .lss x y) (abool true) m := by rw [← decide_eq_true h]; exact op_lssI hx hy
theorem op_lssF (hx : x.get t = some (aint a)) (hy : y.get t = some (aint b)) (h : ¬ (a < b)) : OpV t m (.bin .lss x y) (abool false) m := by rw [← decide_eq_false h]; exact op_lssI hx hy
theorem op_leqT (hx : x.get t = some (aint a)) (hy : y.get t = some (aint b)) (h : a ≤ b) : OpV t m (.bin .leq x y) (abool true) m := by rw [← decide_eq_true h]; exact op_leqI hx hy
theorem op_leqF (hx : x.get t = some (aint a)) (hy : y.get t = some (aint b)) (h : ¬ (a ≤ b)) : OpV t m (.bin .leq x y) (abool false) m := by rw [← decide_eq_false h]; exact op_leqI hx hy
theorem op_gtrT (hx : x.get t = some (aint a)) (hy : y.get t = some (aint b)) (h : b < a) : OpV t m (.bin .gtr x y) (abool true) m := by rw [← decide_eq_true h]; exact op_gtrI hx hy
theorem op_gtrF (hx : x.get t = some (aint a)) (hy : y.get t = some (aint b)) (h : ¬ (b < a)) : OpV t m (.bin .gtr x y) (abool false) m := by rw [← decide_eq_false h]; exact op_gtrI hx hy
theorem op_geqT (hx : x.get t = some (aint a)) (hy : y.get t = some (aint b)) (h : b ≤ a) : OpV t m (.bin .geq x y) (abool true) m := by rw [← decide_eq_true h]; exact op_geqI hx hy
theorem op_geqF (hx : x.get t = some (aint a)) (hy : y.get t = some (aint b)) (h : ¬ (b ≤ a)) : OpV t m (.bin .geq x y) (abool false) m := by rw [← decide_eq_false h]; exact op_geqI hx hy
theorem op_eqlT (hx : x.get t = some (aint a)) (hy : y.get t = some (aint b)) (h : a = b) : OpV t m (.bin .eql x y) (abool true) m := by rw [← decide_eq_true h]; exact op_eqlI hx hy
theorem op_eqlF (hx : x.get t = some (aint a)) (hy : y.get t = some (aint b)) (h : ¬ (a = b)) : OpV t m (.bin .eql x y) (abool false) m := by rw [← decide_eq_false h]; exact op_eqlI hx hy
theorem op_neqT (hx : x.get t = some (aint a)) (hy : y.get t = some (aint b)) (h : a ≠ b) : OpV t m (.bin .neq x y) (abool true) m := by rw [← decide_eq_true h]; exact op_neqI hx hy
theorem op_neqF (hx : x.get t = some (aint a)) (hy : y.get t = some (aint b)) (h : ¬ (a ≠ b)) : OpV t m (.bin .neq x y) (abool false) m := by rw [← decide_eq_false h]; exact op_neqI hx hy
end

section
variable {t : Tr AVal} {m : Mem} {x y : Arg} {id off len i n : Nat} {cap : Option Nat}
theorem op_index01 (hx : x.get t = some (.sl id 0 len 1 cap)) (hy : y.get t = some (aint i)) (hi : i < len) : OpV t m (.indexAddr none 1 x y) (.ptr id i) m := by have := op_indexL (m := m) hx hy hi; rwa [Nat.zero_add, Nat.mul_one] at this
theorem op_index1 (hx : x.get t = some (.sl id off len 1 cap)) (hy : y.get t = some (aint i)) (hi : i < len) : OpV t m (.indexAddr none 1 x y) (.ptr id (off + i)) m := by have := op_indexL (m := m) hx hy hi; rwa [Nat.mul_one] at this
theorem op_fieldAddr0 (hx : x.get t = some (.ptr id 0)) : OpV t m (.fieldAddr n x) (.ptr id n) m := by have := op_fieldAddr (m := m) (n := n) hx; rwa [Nat.zero_add] at this
theorem op_sliceLo1 {lo : Nat} (hx : x.get t = some (.sl id off len 1 cap)) (hy : y.get t = some (aint lo)) (hl : lo ≤ len) : OpV t m (.slice 1 x (some y) none none) (.sl id (off + lo) (len - lo) 1 (cap.map (· - lo))) m := by have := op_sliceLo (m := m) hx hy hl; rwa [Nat.mul_one] at this
end
end Go.Am
