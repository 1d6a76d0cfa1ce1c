/- Parts of the proof, joined by program: AmOwn. -/
import Derived.Test.YtfaphhcloanhnaaPa5
set_option linter.unusedSimpArgs false
set_option linter.unusedVariables false
namespace Go.Am

abbrev Hp := List (Nat × List AVal)
structure Ows (m : Mem) (L : Hp) : Prop where
  nd : (L.map (·.1)).Nodup
  at_ : ∀ p ∈ L, m.cells p.1 = some p.2

/-- The box named id holds cs; it comes to hold cs'; it is taken out. -/
inductive In (id : Nat) (cs : List AVal) : Hp → Prop where
  | here {L : Hp} : In id cs ((id, cs) :: L)
  | next {p : Nat × List AVal} {L : Hp} (h : In id cs L) : In id cs (p :: L)
inductive Upd (id : Nat) (cs cs' : List AVal) : Hp → Hp → Prop where
  | here {L : Hp} : Upd id cs cs' ((id, cs) :: L) ((id, cs') :: L)
  | next {p : Nat × List AVal} {L L' : Hp} (h : Upd id cs cs' L L') : Upd id cs cs' (p :: L) (p :: L')
/-- Of a list a piece is taken out. -/
inductive Rem (B : Hp) : Hp → Hp → Prop where
  | here {L : Hp} : Rem B (B ++ L) L
  | next {p : Nat × List AVal} {L L' : Hp} (h : Rem B L L') : Rem B (p :: L) (p :: L')
  | app {A L L' : Hp} (h : Rem B L L') : Rem B (A ++ L) (A ++ L')

theorem In.mem {id : Nat} {cs : List AVal} {L : Hp} (h : In id cs L) : (id, cs) ∈ L := by
  induction h with
  | here => simp
  | next h ih => simp [ih]
theorem In.app {id : Nat} {cs : List AVal} {A L : Hp} (h : In id cs L) : In id cs (A ++ L) := by
  induction A with
  | nil => exact h
  | cons p A ih => exact .next ih
theorem In.appl {id : Nat} {cs : List AVal} {A L : Hp} (h : In id cs A) : In id cs (A ++ L) := by
  induction h with
  | here => exact .here
  | next h ih => exact .next ih
theorem Upd.app {id : Nat} {cs cs' : List AVal} {A L L' : Hp} (h : Upd id cs cs' L L') : Upd id cs cs' (A ++ L) (A ++ L') := by
  induction A with
  | nil => exact h
  | cons p A ih => exact .next ih
theorem Upd.in_ {id : Nat} {cs cs' : List AVal} {L L' : Hp} (h : Upd id cs cs' L L') : In id cs L := by
  induction h with
  | here => exact .here
  | next h ih => exact .next ih
theorem Upd.ids {id : Nat} {cs cs' : List AVal} {L L' : Hp} (h : Upd id cs cs' L L') : L'.map (·.1) = L.map (·.1) := by
  induction h with
  | here => rfl
  | next h ih => simp [ih]
theorem Upd.mem {id : Nat} {cs cs' : List AVal} {L L' : Hp} (h : Upd id cs cs' L L') (hn : (L.map (·.1)).Nodup) : ∀ p ∈ L', (p = (id, cs')) ∨ (p ∈ L ∧ p.1 ≠ id) := by
  induction h with
  | here =>
    intro p hp
    simp only [List.map_cons, List.nodup_cons, List.mem_map, not_exists, not_and] at hn
    rcases List.mem_cons.1 hp with rfl | hp
    · exact .inl rfl
    · exact .inr ⟨by simp [hp], fun e => hn.1 p hp e⟩
  | @next q L L' h ih =>
    intro p hp
    simp only [List.map_cons, List.nodup_cons] at hn
    rcases List.mem_cons.1 hp with rfl | hp
    · refine .inr ⟨by simp, fun e => hn.1 ?_⟩
      rw [e]
      exact List.mem_map.2 ⟨_, h.in_.mem, rfl⟩
    · rcases ih hn.2 p hp with e | ⟨e1, e2⟩
      · exact .inl e
      · exact .inr ⟨by simp [e1], e2⟩
theorem Rem.perm {B L L' : Hp} (h : Rem B L L') : L.Perm (B ++ L') := by
  induction h with
  | here => exact List.Perm.refl _
  | next h ih => exact (List.Perm.cons _ ih).trans List.perm_middle.symm
  | @app A L L' h ih =>
    refine (List.Perm.append_left A ih).trans ?_
    rw [← List.append_assoc, ← List.append_assoc]
    exact List.Perm.append_right _ List.perm_append_comm

section
variable {m : Mem} {L L' : Hp} {id : Nat} {cs cs' : List AVal}
theorem Ows.nil : Ows m [] := ⟨List.nodup_nil, by simp⟩
theorem Ows.get (h : Ows m L) (hi : In id cs L) : m.cells id = some cs := h.at_ _ hi.mem
theorem Ows.lt (h : Ows m L) {p : Nat × List AVal} (hp : p ∈ L) : p.1 < m.next := cells_next (h.at_ p hp)
theorem Ows.new (h : Ows m L) : Ows (m.new (.cells cs)) ((m.next, cs) :: L) := by
  refine ⟨?_, fun p hp => ?_⟩
  · simp only [List.map_cons, List.nodup_cons]
    refine ⟨fun hc => ?_, h.nd⟩
    obtain ⟨p, hp, e⟩ := List.mem_map.1 hc
    have := h.lt hp
    omega
  · rcases List.mem_cons.1 hp with rfl | hp
    · exact new_same
    · exact new_old (h.at_ p hp)
theorem Ows.upd (h : Ows m L) (hu : Upd id cs cs' L L') : Ows (m.put id (some (.cells cs'))) L' := by
  refine ⟨by rw [hu.ids]; exact h.nd, fun p hp => ?_⟩
  rcases hu.mem h.nd p hp with rfl | ⟨h1, h2⟩
  · exact put_same (h.get hu.in_)
  · exact put_old h2 (h.at_ p h1)
theorem Ows.perm (h : Ows m L) (hp : L.Perm L') : Ows m L' := ⟨(hp.map _).nodup_iff.1 h.nd, fun p hm => h.at_ p (hp.mem_iff.2 hm)⟩
theorem Ows.right {A : Hp} (h : Ows m (A ++ L)) : Ows m L := by
  refine ⟨?_, fun p hp => h.at_ p (by simp [hp])⟩
  have := h.nd
  rw [List.map_append] at this
  exact (List.nodup_append.1 this).2.1
theorem Ows.left {A : Hp} (h : Ows m (A ++ L)) : Ows m A := by
  refine ⟨?_, fun p hp => h.at_ p (by simp [hp])⟩
  have := h.nd
  rw [List.map_append] at this
  exact (List.nodup_append.1 this).1
theorem Ows.drop (h : Ows m ((id, cs) :: L)) : Ows (m.put id none) L := by
  have hn := h.nd
  simp only [List.map_cons, List.nodup_cons, List.mem_map, not_exists, not_and] at hn
  exact ⟨hn.2, fun p hp => put_old (fun e => hn.1 p hp e) (h.at_ p (by simp [hp]))⟩
theorem Ows.same {m' : Mem} (h : Ows m L) (hn : ∀ id cs, m.cells id = some cs → m'.cells id = some cs) : Ows m' L := ⟨h.nd, fun p hp => hn _ _ (h.at_ p hp)⟩
end

/-! ### Code -/
structure WpO (E : Env) (c : AC) (t : Tr AVal) (L : Hp) (Q : Ex → Tr AVal → Hp → Prop) : Prop where
  ex : ∀ m, Ows m L → Wp E c ⟨t, m⟩ fun ex s => ∃ L', Ows s.mem L' ∧ Q ex s.slots L'
structure OpsO (E : Env) (l : List AO) (t : Tr AVal) (L : Hp) (K : Tr AVal → Hp → Prop) : Prop where
  ex : ∀ m, Ows m L → OpsW E l ⟨t, m⟩ fun s => ∃ L', Ows s.mem L' ∧ K s.slots L'
structure CallO (E : Env) (f : FuncId) (args : List AVal) (L : Hp) (K : AVal → Hp → Prop) : Prop where
  ex : ∀ m, Ows m L → CallW E f args m fun v m' => ∃ L', Ows m' L' ∧ K v L'
structure BodyO (E : Env) (fn : AFn) (args : List AVal) (L : Hp) (K : AVal → Hp → Prop) : Prop where
  ex : ∀ m, Ows m L → BodyW E fn args m fun v m' => ∃ L', Ows m' L' ∧ K v L'

inductive seqO (E : Env) (b : AC) (Q : Ex → Tr AVal → Hp → Prop) : Ex → Tr AVal → Hp → Prop where
  | n {t : Tr AVal} {L : Hp} (h : WpO E b t L Q) : seqO E b Q .normal t L
  | r {t : Tr AVal} {L : Hp} (h : Q .ret t L) : seqO E b Q .ret t L
  | x {t : Tr AVal} {L : Hp} {i : Nat} (h : Q (.exit i) t L) : seqO E b Q (.exit i) t L
inductive blkO (id : Nat) (Q : Ex → Tr AVal → Hp → Prop) : Ex → Tr AVal → Hp → Prop where
  | n {t : Tr AVal} {L : Hp} (h : Q .normal t L) : blkO id Q .normal t L
  | r {t : Tr AVal} {L : Hp} (h : Q .ret t L) : blkO id Q .ret t L
  | x {t : Tr AVal} {L : Hp} (h : Q .normal t L) : blkO id Q (.exit id) t L
  | y {t : Tr AVal} {L : Hp} {j : Nat} (hj : j ≠ id) (h : Q (.exit j) t L) : blkO id Q (.exit j) t L

section
variable {E : Env} {t : Tr AVal} {L : Hp} {Q : Ex → Tr AVal → Hp → Prop} {a b c : AC}
theorem WpO.mono {Q' : Ex → Tr AVal → Hp → Prop} (h : WpO E c t L Q) (hq : ∀ ex t L, Q ex t L → Q' ex t L) : WpO E c t L Q' :=
  ⟨fun m hm => (h.ex m hm).mono fun _ _ ⟨L', h1, h2⟩ => ⟨L', h1, hq _ _ _ h2⟩⟩
theorem wo_skip (h : Q .normal t L) : WpO E .skip t L Q := ⟨fun m hm => aw_skip ⟨L, hm, h⟩⟩
theorem wo_ret (h : Q .ret t L) : WpO E .ret t L Q := ⟨fun m hm => aw_ret ⟨L, hm, h⟩⟩
theorem wo_exit {id : Nat} (h : Q (.exit id) t L) : WpO E (.exit id) t L Q := ⟨fun m hm => aw_exit ⟨L, hm, h⟩⟩
theorem wo_scope (h : WpO E c t L Q) : WpO E (.scope c) t L Q := ⟨fun m hm => aw_scope (h.ex m hm)⟩
theorem wo_seq (h : WpO E a t L (seqO E b Q)) : WpO E (.seq a b) t L Q := ⟨fun m hm => aw_seq ((h.ex m hm).mono fun ex s ⟨L', h1, h2⟩ => by
  cases h2 with
  | n h2 => exact .n (h2.ex _ h1)
  | r h2 => exact .r ⟨L', h1, h2⟩
  | x h2 => exact .x ⟨L', h1, h2⟩)⟩
theorem wo_loop (h : WpO E c t L (seqO E (.loop c) Q)) : WpO E (.loop c) t L Q := ⟨fun m hm => aw_loop ((h.ex m hm).mono fun ex s ⟨L', h1, h2⟩ => by
  cases h2 with
  | n h2 => exact .n (h2.ex _ h1)
  | r h2 => exact .r ⟨L', h1, h2⟩
  | x h2 => exact .x ⟨L', h1, h2⟩)⟩
theorem wo_blk {id : Nat} (h : WpO E c t L (blkO id Q)) : WpO E (.blk id c) t L Q := ⟨fun m hm => aw_blk ((h.ex m hm).mono fun ex s ⟨L', h1, h2⟩ => by
  cases h2 with
  | n h2 => exact .n ⟨L', h1, h2⟩
  | r h2 => exact .r ⟨L', h1, h2⟩
  | x h2 => exact .x ⟨L', h1, h2⟩
  | y hj h2 => exact .y hj ⟨L', h1, h2⟩)⟩
theorem wo_cond_if {x : Arg} {v : Bool} (hc : x.get t = some (.sc (.bool v))) (h1 : v = true → WpO E a t L Q) (h2 : v = false → WpO E b t L Q) : WpO E (.cond x a b) t L Q :=
  ⟨fun m hm => aw_cond_if hc (fun e => (h1 e).ex m hm) (fun e => (h2 e).ex m hm)⟩
theorem wo_cond_t {x : Arg} (hc : x.get t = some (.sc (.bool true))) (h1 : WpO E a t L Q) : WpO E (.cond x a b) t L Q := wo_cond_if hc (fun _ => h1) (fun h => nomatch h)
theorem wo_cond_f {x : Arg} (hc : x.get t = some (.sc (.bool false))) (h1 : WpO E b t L Q) : WpO E (.cond x a b) t L Q := wo_cond_if hc (fun h => nomatch h) (fun _ => h1)
theorem wo_reg {l : List AO} (h : OpsO E l t L (Q .normal)) : WpO E (.reg l false) t L Q := ⟨fun m hm => aw_reg (h.ex m hm)⟩
theorem wo_still {l : List AO} (hs : still E l = true) (h : OpsO E l t L (Q .normal)) : WpO E (.reg l true) t L Q := ⟨fun m hm => aw_still hs (h.ex m hm)⟩

/-! Operations -/
variable {K : Tr AVal → Hp → Prop} {l : List AO} {op : AOp} {g : Option (Option Nat × Bool)} {n d : Nat}
theorem OpsW.mono {s : St} {K K' : St → Prop} (h : OpsW E l s K) (hk : ∀ s, K s → K' s) : OpsW E l s K' := let ⟨n, s', h1, h2⟩ := h; ⟨n, s', h1, hk _ h2⟩
theorem oo_nil (h : K t L) : OpsO E [] t L K := ⟨fun m hm => ops_nil ⟨L, hm, h⟩⟩
/-- An operation that leaves the boxes alone. -/
theorem oo_p {v : AVal} (hg : wantedA t g = some true) (hv : ∀ m, Ows m L → OpV t m op v m) (h : OpsO E l (t.set d (some v)) L K) : OpsO E (⟨some d, op, g, n⟩ :: l) t L K := ⟨fun m hm => ops_s hg (hv m hm) (h.ex m hm)⟩
theorem oo_pn {v : AVal} (hg : wantedA t g = some true) (hv : ∀ m, Ows m L → OpV t m op v m) (h : OpsO E l t L K) : OpsO E (⟨none, op, g, n⟩ :: l) t L K := ⟨fun m hm => ops_n hg (hv m hm) (h.ex m hm)⟩
theorem oo_off (hg : wantedA t g = some false) (h : OpsO E l (t.set d (some (.tup []))) L K) : OpsO E (⟨some d, op, g, n⟩ :: l) t L K := ⟨fun m hm => ops_off hg (h.ex m hm)⟩
theorem oo_offn (hg : wantedA t g = some false) (h : OpsO E l t L K) : OpsO E (⟨none, op, g, n⟩ :: l) t L K := ⟨fun m hm => ops_offn hg (h.ex m hm)⟩
theorem oo_guard {o : Option Nat} {want v : Bool} (hg : t.get d = some (.sc (.bool v))) (h1 : v = true → OpsO E (⟨o, op, some (some d, want), n⟩ :: l) t L K) (h2 : v = false → OpsO E (⟨o, op, some (some d, want), n⟩ :: l) t L K) : OpsO E (⟨o, op, some (some d, want), n⟩ :: l) t L K := by
  cases v with
  | true => exact h1 rfl
  | false => exact h2 rfl
variable {x y z : Arg} {v u : AVal} {id off esz len k : Nat} {cs cs' r : List AVal} {L' : Hp} {cap : Option Nat}
theorem oo_alloc {zero : List AVal} (hg : wantedA t g = some true) (h : ∀ id, OpsO E l (t.set d (some (.ptr id 0))) ((id, zero) :: L) K) : OpsO E (⟨some d, .alloc zero, g, n⟩ :: l) t L K := ⟨fun m hm => ops_s hg op_alloc ((h m.next).ex _ hm.new)⟩
theorem oo_box (hg : wantedA t g = some true) (hx : x.get t = some v) (h1 : v.one = true) (h : ∀ id, OpsO E l (t.set d (some (.ptr id 0))) ((id, [v]) :: L) K) : OpsO E (⟨some d, .box x, g, n⟩ :: l) t L K := ⟨fun m hm => ops_s hg (op_box hx h1) ((h m.next).ex _ hm.new)⟩
theorem oo_boxA (hg : wantedA t g = some true) (hx : x.get t = some (.agg cs)) (h1 : cs.all AVal.one = true) (h : ∀ id, OpsO E l (t.set d (some (.ptr id 0))) ((id, cs) :: L) K) : OpsO E (⟨some d, .box x, g, n⟩ :: l) t L K := ⟨fun m hm => ops_s hg (op_boxA hx h1) ((h m.next).ex _ hm.new)⟩
theorem oo_load (hg : wantedA t g = some true) (hx : x.get t = some (.ptr id off)) (hi : In id cs L) (hv : cs[off]? = some v) (h : OpsO E l (t.set d (some v)) L K) : OpsO E (⟨some d, .load false 1 x, g, n⟩ :: l) t L K := oo_p hg (fun m hm => op_load hx (hm.get hi) hv) h
theorem oo_loadA (hg : wantedA t g = some true) (hx : x.get t = some (.ptr id off)) (hi : In id cs L) (hv : seg cs off k = some r) (h : OpsO E l (t.set d (some (.agg r))) L K) : OpsO E (⟨some d, .load true k x, g, n⟩ :: l) t L K := oo_p hg (fun m hm => op_loadA hx (hm.get hi) hv) h
theorem oo_store (hg : wantedA t g = some true) (hx : x.get t = some (.ptr id off)) (hy : y.get t = some v) (h1 : v.one = true) (hu : Upd id cs cs' L L') (hl : off < cs.length) (hs : cs.set off v = cs') (h : OpsO E l t L' K) : OpsO E (⟨none, .store 1 x y, g, n⟩ :: l) t L K :=
  ⟨fun m hm => ops_n hg (op_store hx hy h1 (hm.get hu.in_) hl) (by subst hs; exact h.ex _ (hm.upd hu))⟩
theorem oo_storeA (hg : wantedA t g = some true) (hx : x.get t = some (.ptr id off)) (hy : y.get t = some (.agg r)) (hn : r.length = k) (h1 : r.all AVal.one = true) (hu : Upd id cs cs' L L') (hl : off + k ≤ cs.length) (hs : putSeg cs off r = cs') (h : OpsO E l t L' K) : OpsO E (⟨none, .store k x y, g, n⟩ :: l) t L K :=
  ⟨fun m hm => ops_n hg (op_storeA hx hy hn h1 (hm.get hu.in_) hl) (by subst hs; exact h.ex _ (hm.upd hu))⟩
theorem oo_make {bytes : Nat} {z0 : AVal} (hg : wantedA t g = some true) (hx : x.get t = some (aint k)) (hy : y.get t = some (aint k)) (hb : bytes * k ≤ 281474976710656) (hn : k < 281474976710657) (h : ∀ id, OpsO E l (t.set d (some (.sl id 0 k esz (some k)))) ((id, List.replicate k z0) :: L) K) : OpsO E (⟨some d, .makeSlice esz bytes [z0] x y, g, n⟩ :: l) t L K :=
  ⟨fun m hm => ops_s hg (op_make hx hy hb hn) ((h m.next).ex _ hm.new)⟩
theorem oo_buildSlice {zero : List AVal} {ps : List (Nat × Nat × Arg)} {qs : List (Nat × Nat × AVal)} (hg : wantedA t g = some true) (ha : argParts t ps = some qs) (hf : fillA zero qs = some cs) (h : ∀ id, OpsO E l (t.set d (some (.sl id 0 len esz (some len)))) ((id, cs) :: L) K) : OpsO E (⟨some d, .buildSlice esz len zero ps, g, n⟩ :: l) t L K :=
  ⟨fun m hm => ops_s hg (op_buildSlice ha hf) ((h m.next).ex _ hm.new)⟩
theorem oo_clear {zero : List AVal} (hg : wantedA t g = some true) (hx : x.get t = some (.sl id off len esz cap)) (h0 : 0 < len) (hu : Upd id cs cs' L L') (hl : off + len * esz ≤ cs.length) (hs : putSeg cs off (List.flatten (List.replicate len zero)) = cs') (h : OpsO E l t L' K) : OpsO E (⟨none, .clear esz zero x, g, n⟩ :: l) t L K :=
  ⟨fun m hm => ops_n hg (op_clear hx h0 (hm.get hu.in_) hl) (by subst hs; exact h.ex _ (hm.upd hu))⟩

/-! A slice that is appended to, and by nobody else: its box, if it has one -/
inductive BufO (esz : Nat) : AVal → List AVal → Nat → Hp → Prop where
  | nil : BufO esz anil [] 0 []
  | box {id n : Nat} {cs : List AVal} (hl : cs.length = n * esz) (h1 : cs.all AVal.one = true) : BufO esz (.sl id 0 n esz none) cs n [(id, cs)]
variable {B : Hp} {nw : List AVal}
theorem BufO.isOne (h : BufO esz v cs k B) : v.one = true := by cases h <;> rfl
theorem BufO.slen (h : BufO esz v cs k B) : sliceLen v = some k := by cases h <;> rfl
theorem BufO.length (h : BufO esz v cs k B) : cs.length = k * esz := by
  cases h with
  | nil => simp
  | box hl h1 => exact hl
theorem BufO.one (h : BufO esz v cs k B) : cs.all AVal.one = true := by
  cases h with
  | nil => rfl
  | box hl h1 => exact h1
theorem oo_push {bytes j : Nat} (hg : wantedA t g = some true) (hx : x.get t = some v) (hb : BufO esz v cs k B) (hy : y.get t = some (.sl j 0 1 esz (some 1))) (hr : Rem B L L') (hj : In j nw L') (hl : nw.length = esz) (h1 : nw.all AVal.one = true) (hr1 : (k + 1) * bytes ≤ 140737488355328) (hr2 : k + 1 ≤ 140737488355328)
    (h : ∀ id, OpsO E l (t.set d (some (.sl id 0 (k + 1) esz none))) ((id, cs ++ nw) :: L') K) : OpsO E (⟨some d, .append esz bytes x y, g, n⟩ :: l) t L K := ⟨fun m hm => by
  have hm' := hm.perm hr.perm
  have hjc := hm'.right.get hj
  have hsc : sliceCells m esz 1 (.sl j 0 1 esz (some 1)) = some nw := by simp only [sliceCells, if_true, hjc]; exact seg_full (by omega)
  cases hb with
  | nil => exact ops_s hg (op_append hx hy .nil rfl hsc (by omega) hr1 hr2 h1 rfl) ((h m.next).ex _ hm'.new)
  | box hl' h1' => exact ops_s hg (op_append hx hy (.room (hm'.get In.here) (seg_full hl') (by omega)) rfl hsc (by omega) hr1 hr2 h1 h1') ((h m.next).ex _ (Ows.new (Ows.drop hm')))⟩
theorem BufO.pushed {id : Nat} (hb : BufO esz v cs k B) (hl : nw.length = esz) (h1 : nw.all AVal.one = true) : BufO esz (.sl id 0 (k + 1) esz none) (cs ++ nw) (k + 1) [(id, cs ++ nw)] :=
  .box (by rw [List.length_append, hb.length, hl, Nat.add_mul, Nat.one_mul]) (by rw [List.all_append, hb.one, h1]; rfl)
/-- A row is appended, of whatever length. -/
theorem oo_appendR {bytes j : Nat} (hg : wantedA t g = some true) (hx : x.get t = some v) (hb : BufO esz v cs k B) (hy : y.get t = some u) (hu : RowA u nw j) (hr : Rem B L L') (hl : nw.length = j * esz) (h1 : nw.all AVal.one = true) (hr1 : (k + j) * bytes ≤ 140737488355328) (hr2 : k + j ≤ 140737488355328)
    (h : ∀ a' B', BufO esz a' (cs ++ nw) (k + j) B' → OpsO E l (t.set d (some a')) (B' ++ L') K) : OpsO E (⟨some d, .append esz bytes x y, g, n⟩ :: l) t L K := ⟨fun m hm => by
  have hm' := hm.perm hr.perm
  by_cases h0 : j = 0
  · subst h0
    have hnw : nw = [] := List.length_eq_zero_iff.1 (by omega)
    subst hnw
    have := h v B (by simpa using hb)
    exact ops_s hg (op_append0 hx hy hb.slen (len_Row hu)) (this.ex _ hm')
  · have hsc : sliceCells m esz j u = some nw := by
      rcases hu with ⟨_, e, _⟩ | ⟨cap, rfl⟩
      · exact absurd e h0
      · exact seg_full hl
    have hb' : ∀ id, BufO esz (.sl id 0 (k + j) esz none) (cs ++ nw) (k + j) [(id, cs ++ nw)] := fun id => .box (by rw [List.length_append, hb.length, hl, Nat.add_mul]) (by rw [List.all_append, hb.one, h1]; rfl)
    cases hb with
    | nil => exact ops_s hg (op_append hx hy .nil (len_Row hu) hsc (by omega) hr1 hr2 h1 rfl) ((h _ _ (hb' m.next)).ex _ hm'.new)
    | box hl' h1' => exact ops_s hg (op_append hx hy (.room (hm'.get In.here) (seg_full hl') (by omega)) (len_Row hu) hsc (by omega) hr1 hr2 h1 h1') ((h _ _ (hb' m.next)).ex _ (Ows.new (Ows.drop hm')))⟩

/-- A row is appended to a slice without room. -/
theorem oo_appendF {bytes j : Nat} {old : List AVal} (hg : wantedA t g = some true) (hx : x.get t = some (.sl id off k esz (some k))) (hi : In id cs L) (hs : seg cs off (k * esz) = some old) (ho : old.all AVal.one = true) (hy : y.get t = some u) (hu : RowA u nw j) (h0 : 0 < j) (hl : nw.length = j * esz) (h1 : nw.all AVal.one = true) (hr1 : (k + j) * bytes ≤ 140737488355328) (hr2 : k + j ≤ 140737488355328)
    (h : ∀ id2, OpsO E l (t.set d (some (.sl id2 0 (k + j) esz none))) ((id2, old ++ nw) :: L) K) : OpsO E (⟨some d, .append esz bytes x y, g, n⟩ :: l) t L K := ⟨fun m hm => by
  have hsc : sliceCells m esz j u = some nw := by
    rcases hu with ⟨_, e, _⟩ | ⟨cap, rfl⟩
    · omega
    · exact seg_full hl
  exact ops_s hg (op_append hx hy (.full (hm.get hi) hs) (len_Row hu) hsc h0 hr1 hr2 h1 ho) ((h m.next).ex _ hm.new)⟩
theorem oo_append0 {bytes : Nat} (hg : wantedA t g = some true) (hx : x.get t = some v) (hk : sliceLen v = some k) (hy : y.get t = some u) (hu : sliceLen u = some 0) (h : OpsO E l (t.set d (some v)) L K) : OpsO E (⟨some d, .append esz bytes x y, g, n⟩ :: l) t L K := oo_p hg (fun m hm => op_append0 hx hy hk hu) h

/-! Calls -/
variable {f : FuncId} {fn : AFn} {args vs : List AVal} {asq : List Arg} {J J' : AVal → Hp → Prop}
theorem CallO.mono (h : CallO E f args L J) (hj : ∀ v L, J v L → J' v L) : CallO E f args L J' := ⟨fun m hm => (h.ex m hm).mono fun _ _ ⟨L', h1, h2⟩ => ⟨L', h1, hj _ _ h2⟩⟩
theorem BodyO.mono (h : BodyO E fn args L J) (hj : ∀ v L, J v L → J' v L) : BodyO E fn args L J' := ⟨fun m hm => (h.ex m hm).mono fun _ _ ⟨L', h1, h2⟩ => ⟨L', h1, hj _ _ h2⟩⟩
theorem oo_ck {q : FuncId} (hg : wantedA t g = some true) (ha : argAll t asq = some vs) (h : CallO E q vs L fun v L' => OpsO E l (t.set d (some v)) L' K) : OpsO E (⟨some d, .call (.k (.fn (.func q) [] [])) asq, g, n⟩ :: l) t L K :=
  ⟨fun m hm => ops_ck hg ha ((h.ex m hm).mono fun v m' ⟨L', h1, h2⟩ => h2.ex m' h1)⟩
theorem oo_ckn {q : FuncId} (hg : wantedA t g = some true) (ha : argAll t asq = some vs) (h : CallO E q vs L fun v L' => OpsO E l t L' K) : OpsO E (⟨none, .call (.k (.fn (.func q) [] [])) asq, g, n⟩ :: l) t L K :=
  ⟨fun m hm => ops_ckn hg ha ((h.ex m hm).mono fun v m' ⟨L', h1, h2⟩ => h2.ex m' h1)⟩
theorem oo_cv {q : FuncId} {cp : List AVal} (hg : wantedA t g = some true) (hf : x.get t = some (.fn (.func q) [] cp)) (ha : argAll t asq = some vs) (h : CallO E q (vs ++ cp) L fun v L' => OpsO E l (t.set d (some v)) L' K) : OpsO E (⟨some d, .call x asq, g, n⟩ :: l) t L K :=
  ⟨fun m hm => ops_cv hg hf ha ((h.ex m hm).mono fun v m' ⟨L', h1, h2⟩ => h2.ex m' h1)⟩

inductive ResO (t : Tr AVal) (L : Hp) : List AR → List AVal → Prop where
  | nil : ResO t L [] []
  | tmp {n : Nat} {r : List AR} {v : AVal} {vs : List AVal} (h : t.get n = some v) (hr : ResO t L r vs) : ResO t L (.tmp n :: r) (v :: vs)
  | cell {n id off : Nat} {r : List AR} {cs : List AVal} {v : AVal} {vs : List AVal} (h : t.get n = some (.ptr id off)) (hc : In id cs L) (hv : cs[off]? = some v) (hr : ResO t L r vs) : ResO t L (.cell false 1 n :: r) (v :: vs)
  | cellA {n k id off : Nat} {r : List AR} {cs x : List AVal} {vs : List AVal} (h : t.get n = some (.ptr id off)) (hc : In id cs L) (hv : seg cs off k = some x) (hr : ResO t L r vs) : ResO t L (.cell true k n :: r) (.agg x :: vs)
theorem ResO.ok {rs : List AR} {m : Mem} (h : ResO t L rs vs) (hm : Ows m L) : results1 ⟨t, m⟩ rs = some vs := by
  induction h with
  | nil => rfl
  | tmp h hr ih => exact res_tmp h ih
  | cell h hc hv hr ih => exact res_cell h (hm.get hc) hv ih
  | cellA h hc hv hr ih => exact res_cellA h (hm.get hc) hv ih
def retO (fn : AFn) (R : AVal → Hp → Prop) : Ex → Tr AVal → Hp → Prop
  | .exit _, _, _ => False
  | _, t, L => ∃ vs, ResO t L fn.results vs ∧ R (resultV vs) L
theorem retO_n {R : AVal → Hp → Prop} (h : ResO t L fn.results vs) (hr : R (resultV vs) L) : retO fn R .normal t L := ⟨vs, h, hr⟩
theorem retO_r {R : AVal → Hp → Prop} (h : ResO t L fn.results vs) (hr : R (resultV vs) L) : retO fn R .ret t L := ⟨vs, h, hr⟩
theorem bodyO_of (hl : args.length ≤ fn.ntmps) (h : WpO E fn.code (argSlots args 0 .nil) L (retO fn J)) : BodyO E fn args L J := ⟨fun m hm => body_of hl ((h.ex m hm).mono fun ex s ⟨L', h1, h2⟩ => by
  cases ex with
  | normal => obtain ⟨vs, h3, h4⟩ := h2; exact ⟨vs, h3.ok h1, L', h1, h4⟩
  | ret => obtain ⟨vs, h3, h4⟩ := h2; exact ⟨vs, h3.ok h1, L', h1, h4⟩
  | exit i => exact h2.elim)⟩

/-- What a value, its boxes laid asq rows, comes to. -/
structure ViewO (L : Hp) (k : Nat) (v u : AVal) : Prop where
  ex : ∀ m, Ows m L → view m k v = some u
structure ViewsO (L : Hp) (vs us : List AVal) : Prop where
  ex : ∀ m, Ows m L → viewAll m vs = some us
theorem vo_sc {s : Value} : ViewO L (k + 1) (.sc s) (.sc s) := ⟨fun m hm => view_sc⟩
structure ViewL (L : Hp) (k : Nat) (vs us : List AVal) : Prop where
  ex : ∀ m, Ows m L → vs.mapM (view m k) = some us
theorem vl_nil : ViewL L k [] [] := ⟨fun m hm => mapM_view_nil⟩
theorem vl_cons {us : List AVal} (h : ViewO L k v u) (hr : ViewL L k vs us) : ViewL L k (v :: vs) (u :: us) := ⟨fun m hm => mapM_view_cons (h.ex m hm) (hr.ex m hm)⟩
theorem vl_sc (h : ∀ c ∈ cs, ∃ v, c = .sc v) : ViewL L (k + 1) cs cs := ⟨fun m hm => mapM_view_sc cs h⟩
theorem vo_tup {us : List AVal} (h : ViewL L k vs us) : ViewO L (k + 1) (.tup vs) (.tup us) := ⟨fun m hm => view_tup (h.ex m hm)⟩
theorem vo_agg {us : List AVal} (h : ViewL L k vs us) : ViewO L (k + 1) (.agg vs) (.agg us) := ⟨fun m hm => view_agg (h.ex m hm)⟩
theorem vo_sl {us : List AVal} (hi : In id cs L) (hs : seg cs off (len * esz) = some r) (h : ViewL L k r us) : ViewO L (k + 1) (.sl id off len esz cap) (.rs us len cap) := ⟨fun m hm => view_sl (hm.get hi) hs (h.ex m hm)⟩
theorem vs_nil : ViewsO L [] [] := ⟨fun m hm => rfl⟩
theorem vs_bare {us : List AVal} (h : v.bare = true) (hr : ViewsO L vs us) : ViewsO L (v :: vs) (v :: us) := ⟨fun m hm => va_bare h (hr.ex m hm)⟩
theorem vs_view {us : List AVal} (hb : v.bare = false) (h : ViewO L 64 v u) (hr : ViewsO L vs us) : ViewsO L (v :: vs) (u :: us) := ⟨fun m hm => va_view hb (h.ex m hm) (hr.ex m hm)⟩
theorem Rem.in_ {B L L' : Hp} {id : Nat} {cs : List AVal} (h : Rem B L L') (hi : In id cs B) : In id cs L := by
  induction h with
  | here => exact hi.appl
  | next h ih => exact .next ih
  | app h ih => exact ih.app
theorem BufO.view {B : Hp} (hb : BufO esz v cs len B) (hr : ∀ id c, In id c B → In id c L) (h : ∀ c ∈ cs, ∃ v, c = .sc v) : ∃ u, ViewO L (k + 2) v u ∧ RowA u cs len := by
  cases hb with
  | nil => exact ⟨anil, ⟨fun m hm => rfl⟩, .inl ⟨rfl, rfl, rfl⟩⟩
  | box hl h1 => exact ⟨.rs cs len none, vo_sl (hr _ _ .here) (seg_full (by omega)) (vl_sc h), .inr ⟨none, rfl⟩⟩

theorem callO_open (hm : E.mode f = .open_) (hf : E.fns f = some fn) (h : BodyO E fn args L J) : CallO E f args L J :=
  ⟨fun m ho => call_open hm hf ((h.ex ⟨m.heap, m.next, m.next⟩ (ho.same fun _ _ h => h)).mono fun v m' ⟨L', h1, h2⟩ => ⟨L', h1.same fun _ _ h => h, h2⟩)⟩
theorem callO_iso0 {R : AVal → Prop} (hm : E.mode f = .iso false) (hf : E.fns f = some fn) (hv : ViewsO L args vs) (h : BodyO E fn vs [] fun v _ => v.flat = true ∧ R v) : CallO E f args L fun v L' => R v ∧ L' = L :=
  ⟨fun m ho => (call_iso0 hm hf (hv.ex m ho) ((h.ex _ Ows.nil).mono fun v m' ⟨_, _, h2⟩ => h2)).mono fun v m' ⟨h1, h2⟩ => by subst h2; exact ⟨L, ho, h1, rfl⟩⟩
theorem callO_iso1 {R : AVal → Prop} (hm : E.mode f = .iso true) (hf : E.fns f = some fn) (hb : args.all AVal.bare = true) (h : BodyO E fn args [] fun v L' => ∃ u, ViewO L' 64 v u ∧ R u) : CallO E f args L fun v L' => R v ∧ L' = L :=
  ⟨fun m ho => (call_iso1 hm hf hb ((h.ex _ Ows.nil).mono fun v m' ⟨L', h1, u, h2, h3⟩ => ⟨u, h2.ex m' h1, h3⟩)).mono fun v m' ⟨h1, h2⟩ => by subst h2; exact ⟨L, ho, h1, rfl⟩⟩
theorem callO_known (hm : E.mode f = .known) (h : ∀ m, Ows m L → ∃ v m' L', E.known f args m = some (v, m') ∧ Ows m' L' ∧ J v L') : CallO E f args L J :=
  ⟨fun m ho => let ⟨v, m', L', h1, h2, h3⟩ := h m ho; call_known hm h1 ⟨L', h2, h3⟩⟩
/-- Of a law: what it answers. -/
theorem callO_end {R : AVal → Prop} (h : CallO E f args [] fun v _ => R v) : ∃ n v m', callF E n (.func f) args ⟨.nil, 0, 0⟩ = some (v, m') ∧ R v := by
  obtain ⟨n, v, m', h1, _, _, h2⟩ := h.ex ⟨.nil, 0, 0⟩ Ows.nil
  exact ⟨n, v, m', h1, h2⟩
end

/-! Fewer boxes, in another order -/
def Sub (A L : Hp) : Prop := ∃ R, L.Perm (A ++ R)
section
variable {A B L L' : Hp} {p : Nat × List AVal}
theorem Rem.nil : Rem [] L L := Rem.here
theorem Rem.one : Rem [p] (p :: L) L := Rem.here
theorem Rem.last : Rem B B [] := by have := @Rem.here B []; rwa [List.append_nil] at this
theorem Sub.nil : Sub [] L := ⟨L, List.Perm.refl _⟩
theorem Sub.refl (L : Hp) : Sub L L := ⟨[], by rw [List.append_nil]⟩
theorem Sub.skip (h : Sub A L) : Sub A (p :: L) := let ⟨R, hr⟩ := h; ⟨p :: R, (hr.cons p).trans List.perm_middle.symm⟩
theorem Sub.skipA (h : Sub A L) : Sub A (B ++ L) := by
  induction B with
  | nil => exact h
  | cons p B ih => exact Sub.skip ih
theorem Sub.app (hr : Rem B L L') (h : Sub A L') : Sub (B ++ A) L := let ⟨R, hp⟩ := h; ⟨R, by rw [List.append_assoc]; exact hr.perm.trans (hp.append_left B)⟩
theorem Sub.cons (hr : Rem [p] L L') (h : Sub A L') : Sub (p :: A) L := Sub.app hr h
theorem Sub.trans {C : Hp} (h : Sub A B) (k : Sub B C) : Sub A C := let ⟨R, h1⟩ := h; let ⟨S, h2⟩ := k; ⟨R ++ S, by rw [← List.append_assoc]; exact h2.trans (h1.append_right S)⟩
theorem Ows.sub {m : Mem} (h : Ows m L) (hs : Sub A L) : Ows m A := let ⟨R, hp⟩ := hs; (h.perm hp).left
variable {E : Env} {t : Tr AVal} {Q : Ex → Tr AVal → Hp → Prop} {c : AC} {K : Tr AVal → Hp → Prop} {l : List AO} {f : FuncId} {args : List AVal} {J : AVal → Hp → Prop}
theorem WpO.weak (h : WpO E c t A Q) (hs : Sub A L) : WpO E c t L Q := ⟨fun m hm => h.ex m (hm.sub hs)⟩
theorem OpsO.weak (h : OpsO E l t A K) (hs : Sub A L) : OpsO E l t L K := ⟨fun m hm => h.ex m (hm.sub hs)⟩
theorem CallO.weak (h : CallO E f args A J) (hs : Sub A L) : CallO E f args L J := ⟨fun m hm => h.ex m (hm.sub hs)⟩
theorem CallO.to (h : CallO E f args L fun v L' => ∃ L0, Sub L0 L' ∧ J v L0) : CallO E f args L J := ⟨fun m hm => (h.ex m hm).mono fun v m' ⟨L', h1, L0, h2, h3⟩ => ⟨L0, h1.sub h2, h3⟩⟩
end

/-- These slots are asq they were. -/
structure Keep (js : List Nat) (t t' : Tr AVal) : Prop where
  ex : ∀ j, js.contains j = true → t'.get j = t.get j
theorem Keep.refl (js : List Nat) (t : Tr AVal) : Keep js t t := ⟨fun _ _ => rfl⟩
theorem Keep.set {js : List Nat} {t t' : Tr AVal} {i : Nat} {v : Option AVal} (h : Keep js t t') (hi : js.contains i = false) : Keep js t (t'.set i v) := ⟨fun j hj => by
  rw [Tr.get_set, if_neg]
  · exact h.ex j hj
  · rintro rfl
    rw [hi] at hj
    cases hj⟩
theorem Keep.trans {js : List Nat} {a b c : Tr AVal} (h : Keep js a b) (k : Keep js b c) : Keep js a c := ⟨fun j hj => (k.ex j hj).trans (h.ex j hj)⟩
theorem Keep.less {js is : List Nat} {a b : Tr AVal} (h : Keep js a b) (hs : is.all js.contains = true) : Keep is a b := ⟨fun j hj => h.ex j (List.all_eq_true.1 hs j (List.contains_iff_mem.1 hj))⟩

/-! Pairs of places -/
def ipairs (ps : List (Nat × Nat)) : List (Int × Int) := ps.map fun p => ((p.1 : Int), (p.2 : Int))
theorem ipairs_length (ps : List (Nat × Nat)) : (ipairs ps).length = ps.length := by simp [ipairs]
theorem ipairs_getD {ps : List (Nat × Nat)} {k : Nat} (h : k < ps.length) : (ipairs ps).getD k (0, 0) = (((ps.getD k (0, 0)).1 : Int), ((ps.getD k (0, 0)).2 : Int)) := by
  simp [ipairs, h]
theorem get_np0 {l : List (Nat × Nat)} {k : Nat} (h : k < l.length) : (((pcells (ipairs l)).drop (k * 2)).drop (0 * 1))[0]? = some (aint ((l.getD k (0, 0)).1 : Nat)) := by
  rw [get_pair00 (by rw [ipairs_length]; exact h), ipairs_getD h]
theorem get_np1 {l : List (Nat × Nat)} {k : Nat} (h : k < l.length) : (((pcells (ipairs l)).drop (k * 2)).drop (1 * 1))[0]? = some (aint ((l.getD k (0, 0)).2 : Nat)) := by
  rw [get_pair1 (by rw [ipairs_length]; exact h), ipairs_getD h]
theorem seg_np {l : List (Nat × Nat)} {k : Nat} (h : k < l.length) : seg ((pcells (ipairs l)).drop (k * 2)) 0 2 = some [aint ((l.getD k (0, 0)).1 : Nat), aint ((l.getD k (0, 0)).2 : Nat)] := by
  rw [seg_pair (by rw [ipairs_length]; exact h), ipairs_getD h]
theorem le_np {l : List (Nat × Nat)} {k : Nat} (h : k < l.length) : k * 2 < (pcells (ipairs l)).length := le_pcells (by rw [ipairs_length]; exact h)
theorem le_np2 {l : List (Nat × Nat)} {k j : Nat} (h : k < l.length) (hj : j ≤ 2) : j ≤ ((pcells (ipairs l)).drop (k * 2)).length := le_pcells2 (by rw [ipairs_length]; exact h) hj
/-- A slice of pairs of places that stays. -/
abbrev SlN (v : AVal) (ps : List (Nat × Nat)) : Prop := RowA v (pcells (ipairs ps)) ps.length

/-! Slots that are no longer wanted, forgotten -/
section
variable {E : Env} {t t0 : Tr AVal} {L : Hp} {Q : Ex → Tr AVal → Hp → Prop} {K : Tr AVal → Hp → Prop} {c : AC} {l : List AO}
theorem genO5 (i0 i1 i2 i3 i4 : Nat) {v0 v1 v2 v3 v4 : AVal} {js : List Nat} (hK : Keep js t0 t) (h0 : t.get i0 = some v0) (h1 : t.get i1 = some v1) (h2 : t.get i2 = some v2) (h3 : t.get i3 = some v3) (h4 : t.get i4 = some v4) (h : ∀ t2, Keep js t0 t2 → t2.get i0 = some v0 → t2.get i1 = some v1 → t2.get i2 = some v2 → t2.get i3 = some v3 → t2.get i4 = some v4 → OpsO E l t2 L K) : OpsO E l t L K := h t hK h0 h1 h2 h3 h4
theorem genW5 (i0 i1 i2 i3 i4 : Nat) {v0 v1 v2 v3 v4 : AVal} {js : List Nat} (hK : Keep js t0 t) (h0 : t.get i0 = some v0) (h1 : t.get i1 = some v1) (h2 : t.get i2 = some v2) (h3 : t.get i3 = some v3) (h4 : t.get i4 = some v4) (h : ∀ t2, Keep js t0 t2 → t2.get i0 = some v0 → t2.get i1 = some v1 → t2.get i2 = some v2 → t2.get i3 = some v3 → t2.get i4 = some v4 → WpO E c t2 L Q) : WpO E c t L Q := h t hK h0 h1 h2 h3 h4
theorem genO6 (i0 i1 i2 i3 i4 i5 : Nat) {v0 v1 v2 v3 v4 v5 : AVal} {js : List Nat} (hK : Keep js t0 t) (h0 : t.get i0 = some v0) (h1 : t.get i1 = some v1) (h2 : t.get i2 = some v2) (h3 : t.get i3 = some v3) (h4 : t.get i4 = some v4) (h5 : t.get i5 = some v5) (h : ∀ t2, Keep js t0 t2 → t2.get i0 = some v0 → t2.get i1 = some v1 → t2.get i2 = some v2 → t2.get i3 = some v3 → t2.get i4 = some v4 → t2.get i5 = some v5 → OpsO E l t2 L K) : OpsO E l t L K := h t hK h0 h1 h2 h3 h4 h5
theorem genW6 (i0 i1 i2 i3 i4 i5 : Nat) {v0 v1 v2 v3 v4 v5 : AVal} {js : List Nat} (hK : Keep js t0 t) (h0 : t.get i0 = some v0) (h1 : t.get i1 = some v1) (h2 : t.get i2 = some v2) (h3 : t.get i3 = some v3) (h4 : t.get i4 = some v4) (h5 : t.get i5 = some v5) (h : ∀ t2, Keep js t0 t2 → t2.get i0 = some v0 → t2.get i1 = some v1 → t2.get i2 = some v2 → t2.get i3 = some v3 → t2.get i4 = some v4 → t2.get i5 = some v5 → WpO E c t2 L Q) : WpO E c t L Q := h t hK h0 h1 h2 h3 h4 h5
theorem genO7 (i0 i1 i2 i3 i4 i5 i6 : Nat) {v0 v1 v2 v3 v4 v5 v6 : AVal} {js : List Nat} (hK : Keep js t0 t) (h0 : t.get i0 = some v0) (h1 : t.get i1 = some v1) (h2 : t.get i2 = some v2) (h3 : t.get i3 = some v3) (h4 : t.get i4 = some v4) (h5 : t.get i5 = some v5) (h6 : t.get i6 = some v6) (h : ∀ t2, Keep js t0 t2 → t2.get i0 = some v0 → t2.get i1 = some v1 → t2.get i2 = some v2 → t2.get i3 = some v3 → t2.get i4 = some v4 → t2.get i5 = some v5 → t2.get i6 = some v6 → OpsO E l t2 L K) : OpsO E l t L K := h t hK h0 h1 h2 h3 h4 h5 h6
theorem genW7 (i0 i1 i2 i3 i4 i5 i6 : Nat) {v0 v1 v2 v3 v4 v5 v6 : AVal} {js : List Nat} (hK : Keep js t0 t) (h0 : t.get i0 = some v0) (h1 : t.get i1 = some v1) (h2 : t.get i2 = some v2) (h3 : t.get i3 = some v3) (h4 : t.get i4 = some v4) (h5 : t.get i5 = some v5) (h6 : t.get i6 = some v6) (h : ∀ t2, Keep js t0 t2 → t2.get i0 = some v0 → t2.get i1 = some v1 → t2.get i2 = some v2 → t2.get i3 = some v3 → t2.get i4 = some v4 → t2.get i5 = some v5 → t2.get i6 = some v6 → WpO E c t2 L Q) : WpO E c t L Q := h t hK h0 h1 h2 h3 h4 h5 h6
end

/-! Slices of slices of numbers -/
/-- Cells that are slices, each all of a box of its own. -/
inductive RowsO : List AVal → List (List Int) → Hp → Prop where
  | nil : RowsO [] [] []
  | snoc {cs : List AVal} {ls : List (List Int)} {H : Hp} {id n : Nat} {cap : Option Nat} {l : List Int} (h : RowsO cs ls H) (hn : l.length = n) : RowsO (cs ++ [.sl id 0 n 1 cap]) (ls ++ [l]) (H ++ [(id, l.map aint)])
/-- A slice that stays, of slices of numbers. -/
def SlS (v : AVal) (ls : List (List Int)) : Prop := ∃ us, RowA v us ls.length ∧ us.length = ls.length ∧ ∀ (j : Nat) u l, us[j]? = some u → ls[j]? = some l → SlI u l
section
variable {L : Hp} {k : Nat}
theorem vl_app {a b ua ub : List AVal} (h1 : ViewL L k a ua) (h2 : ViewL L k b ub) : ViewL L k (a ++ b) (ua ++ ub) := ⟨fun m hm => by rw [List.mapM_append, h1.ex m hm, h2.ex m hm]; rfl⟩
theorem RowsO.view {cs : List AVal} {ls : List (List Int)} {H : Hp} (h : RowsO cs ls H) (hH : ∀ id c, In id c H → In id c L) : ∃ us, ViewL L (k + 2) cs us ∧ us.length = ls.length ∧ ∀ (j : Nat) u l, us[j]? = some u → ls[j]? = some l → SlI u l := by
  induction h with
  | nil => exact ⟨[], vl_nil, rfl, fun j u l h => by simp at h⟩
  | @snoc cs ls H id n cap l h hn ih =>
    obtain ⟨us, h1, h2, h3⟩ := ih fun id c hi => hH id c hi.appl
    have hin : In id (l.map aint) L := hH _ _ (In.app .here)
    refine ⟨us ++ [.rs (l.map aint) n cap], vl_app h1 (vl_cons (vo_sl hin (by rw [Nat.mul_one]; exact seg_full (by simp [hn])) (vl_sc (sc_ints l))) vl_nil), by simp [h2], fun j u l' hu hl => ?_⟩
    by_cases hj : j < us.length
    · rw [List.getElem?_append_left hj] at hu
      rw [List.getElem?_append_left (by omega)] at hl
      exact h3 j u l' hu hl
    · rw [List.getElem?_append_right (by omega)] at hu
      rw [List.getElem?_append_right (by omega)] at hl
      by_cases e : j = us.length
      · subst e
        rw [h2] at hl hu
        simp at hu hl
        subst hu hl hn
        exact .inr ⟨cap, rfl⟩
      · have : j - us.length = (j - us.length - 1) + 1 := by omega
        rw [this] at hu
        simp at hu
theorem RowsO.one {cs : List AVal} {ls : List (List Int)} {H : Hp} (h : RowsO cs ls H) : cs.all AVal.one = true ∧ cs.length = ls.length := by
  induction h with
  | nil => exact ⟨rfl, rfl⟩
  | snoc h hn ih => exact ⟨by rw [List.all_append, ih.1]; rfl, by simp [ih.2]⟩
theorem SlS.bare {v : AVal} {ls : List (List Int)} (h : SlS v ls) : v.bare = true := by
  obtain ⟨us, h1, h2, h3⟩ := h
  refine bare_Row h1 fun c hc => ?_
  obtain ⟨j, hj⟩ := List.getElem?_of_mem hc
  have hlt := (List.getElem?_eq_some_iff.1 hj).1
  exact bare_SlI (h3 j c (ls[j]'(by omega)) hj (List.getElem?_eq_getElem (by omega)))
theorem SlS.row {v : AVal} {ls : List (List Int)} (h : SlS v ls) : ∃ us, RowA v us ls.length ∧ us.length = ls.length ∧ ∀ j, j < ls.length → ∃ u, us[j]? = some u ∧ SlI u (ls.getD j []) := by
  obtain ⟨us, h1, h2, h3⟩ := h
  refine ⟨us, h1, h2, fun j hj => ?_⟩
  refine ⟨us[j]'(by omega), List.getElem?_eq_getElem (by omega), ?_⟩
  have := h3 j (us[j]'(by omega)) (ls[j]) (List.getElem?_eq_getElem (by omega)) (List.getElem?_eq_getElem hj)
  simpa [hj] using this
end
/-- Filled up to k. -/
def fillI (x : Int) (k N : Nat) : List Int := List.replicate k x ++ List.replicate (N - k) 0
theorem fillI_zero (x : Int) (N : Nat) : fillI x 0 N = List.replicate N 0 := by simp [fillI]
theorem fillI_all (x : Int) (N : Nat) : fillI x N N = List.replicate N x := by simp [fillI]
theorem fillI_length {x : Int} {k N : Nat} (h : k ≤ N) : (fillI x k N).length = N := by simp [fillI]; omega
theorem fillI_set {x : Int} {k N : Nat} (h : k < N) : (fillI x k N).set k x = fillI x (k + 1) N := by
  unfold fillI
  rw [List.set_append_right _ _ (by simp)]
  simp only [List.length_replicate, Nat.sub_self]
  rw [show N - k = (N - (k + 1)) + 1 by omega, List.replicate_succ, List.set_cons_zero, List.replicate_succ', List.append_assoc]
  rfl
theorem zeros_ints (N : Nat) : List.replicate N (AVal.sc (.int .i64 0)) = (List.replicate N 0).map aint := by rw [List.map_replicate]; rfl

/-! Numbers of places -/
def inat (l : List Nat) : List Int := l.map fun (x : Nat) => (x : Int)
theorem inat_length (l : List Nat) : (inat l).length = l.length := by simp [inat]
theorem inat_app (a b : List Nat) : inat (a ++ b) = inat a ++ inat b := by simp [inat]
theorem get_inat {l : List Nat} {k : Nat} (h : k < l.length) : (((inat l).map aint).drop (k * 1))[0]? = some (aint ((l.getD k 0 : Nat) : Int)) := by
  simp [inat, h]
theorem getElem?_inat {l : List Nat} {k : Nat} (h : k < l.length) : ((inat l).map aint)[k]? = some (aint ((l.getD k 0 : Nat) : Int)) := by
  simp [inat, h]
theorem le_inat {l : List Nat} {k : Nat} (h : k < l.length) : k * 1 < ((inat l).map aint).length := by simp [inat]; omega
theorem lt_inat {l : List Nat} {k : Nat} (h : k < l.length) : k < (inat l).length := by simp [inat]; omega
theorem seg_get {cs r : List AVal} {off n i : Nat} (h : seg cs off n = some r) (hi : i < n) : cs[off + i]? = r[i]? := by
  unfold seg at h
  split at h
  · simp only [Option.some.injEq] at h
    subst h
    rw [List.getElem?_take, if_pos hi, List.getElem?_drop]
  · simp at h
theorem seg_len {cs r : List AVal} {off n : Nat} (h : seg cs off n = some r) : r.length = n ∧ off + n ≤ cs.length := by
  unfold seg at h
  split at h
  · simp only [Option.some.injEq] at h
    subst h
    simp
    omega
  · simp at h
theorem seg_tail {cs r : List AVal} {off n : Nat} {c : AVal} (h : seg cs off (n + 1) = some (c :: r)) : seg cs (off + 1) n = some r := by
  unfold seg at h ⊢
  split at h
  · rw [if_pos (by omega)]
    simp only [Option.some.injEq] at h ⊢
    rw [← List.drop_drop]
    have hl : (cs.drop off).length = cs.length - off := by simp
    cases e : cs.drop off with
    | nil => rw [e] at hl; simp at hl; omega
    | cons x y =>
      rw [e, List.take_succ_cons] at h
      simp only [List.cons.injEq] at h
      simp only [List.drop_succ_cons, List.drop_zero]
      exact h.2
  · simp at h
section
variable {E : Env} {t : Tr AVal} {L L' : Hp} {K : Tr AVal → Hp → Prop} {l : List AO} {g : Option (Option Nat × Bool)} {n d : Nat} {x y : Arg} {id off esz k j : Nat} {cs old nw : List AVal} {cap : Option Nat}
/-- A part of a box of its own is appended to, and by nobody else. -/
theorem oo_pushS {bytes : Nat} (hg : wantedA t g = some true) (hx : x.get t = some (.sl id off k esz cap)) (hr : Rem [(id, cs)] L L') (hs : seg cs off (k * esz) = some old) (hy : y.get t = some (.sl j 0 1 esz (some 1))) (hj : In j nw L') (hl : nw.length = esz) (h1 : nw.all AVal.one = true) (h2 : old.all AVal.one = true) (hr1 : (k + 1) * bytes ≤ 140737488355328) (hr2 : k + 1 ≤ 140737488355328)
    (h : ∀ i, OpsO E l (t.set d (some (.sl i 0 (k + 1) esz none))) ((i, old ++ nw) :: L') K) (hcap : cap = some k ∨ cap = none := by simp) (hte : cs.length ≤ off + k * esz := by omega) : OpsO E (⟨some d, .append esz bytes x y, g, n⟩ :: l) t L K := ⟨fun m hm => by
  have hm' := hm.perm hr.perm
  have hjc := hm'.right.get hj
  have hsc : sliceCells m esz 1 (.sl j 0 1 esz (some 1)) = some nw := by simp only [sliceCells, if_true, hjc]; exact seg_full (by omega)
  rcases hcap with hc | hc
  · subst hc
    exact ops_s hg (op_append hx hy (.full (hm'.get In.here) hs) rfl hsc (by omega) hr1 hr2 h1 h2) ((h m.next).ex _ ((Ows.new hm').sub (Sub.cons Rem.here (Sub.skip (Sub.refl _)))))
  · subst hc
    exact ops_s hg (op_append hx hy (.room (hm'.get In.here) hs hte) rfl hsc (by omega) hr1 hr2 h1 h2) ((h m.next).ex _ (Ows.new (Ows.drop hm')))⟩
end
section
variable {E : Env} {t : Tr AVal} {L L' : Hp} {K : Tr AVal → Hp → Prop} {l : List AO} {g : Option (Option Nat × Bool)} {n : Nat} {x y : Arg} {id off len : Nat} {cs cs' : List AVal} {cap : Option Nat} {m : Mem}
/-- The end of a box is made zero. -/
theorem oo_clearE {z0 : AVal} (hg : wantedA t g = some true) (hx : x.get t = some (.sl id off len 1 cap)) (h0 : 0 < len) (hu : Upd id cs cs' L L') (hl : off + len = cs.length) (hs : cs.take off ++ List.replicate len z0 = cs') (h : OpsO E l t L' K) : OpsO E (⟨none, .clear 1 [z0] x, g, n⟩ :: l) t L K :=
  oo_clear hg hx h0 hu (by omega) (by
    rw [flatten_one]
    unfold putSeg
    rw [List.drop_of_length_le (by simp; omega), List.append_nil]
    exact hs) h
theorem op_sliceLo01 {lo : Nat} (hx : x.get t = some (.sl id 0 len 1 cap)) (hy : y.get t = some (aint lo)) (hl : lo ≤ len) : OpV t m (.slice 1 x (some y) none none) (.sl id lo (len - lo) 1 (cap.map (· - lo))) m := by have := op_sliceLo1 (m := m) hx hy hl; rwa [Nat.zero_add] at this
end
end Go.Am
