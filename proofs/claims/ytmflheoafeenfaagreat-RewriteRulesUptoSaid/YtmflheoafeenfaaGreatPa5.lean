/- Parts of the proof, joined by program: AmWp. -/
import Derived.Test.YtmflheoafeenfaaGreatPa1
set_option linter.unusedSimpArgs false
set_option linter.unusedVariables false
namespace Go.Am

def CfLe (cf cf' : CallF) : Prop := ∀ g args m r, cf g args m = some r → cf' g args m = some r

section
variable {cf cf' : CallF}
theorem stepVal_mono (h : CfLe cf cf') {s : Tr AVal} {m : Mem} {op : AOp} {r : AVal × Mem} (hv : stepVal cf s m op = some r) : stepVal cf' s m op = some r := by
  unfold stepVal at hv ⊢
  split at hv
  · split at hv
    · exact h _ _ _ _ hv
    · simp at hv
  · exact hv
theorem stepO_mono (h : CfLe cf cf') {o : AO} {s s' : St} (hv : stepO cf o s = some s') : stepO cf' o s = some s' := by
  unfold stepO at hv ⊢
  split at hv
  · split at hv
    · rename_i v m hs
      rw [stepVal_mono h hs]
      exact hv
    · simp at hv
  · exact hv
  · simp at hv
theorem stepOs_mono (h : CfLe cf cf') : ∀ {l : List AO} {s s' : St}, stepOs cf l s = some s' → stepOs cf' l s = some s'
  | [], s, s', hv => hv
  | o :: l, s, s', hv => by
    unfold stepOs at hv ⊢
    split at hv
    · rename_i s1 h1
      rw [stepO_mono h h1]
      exact stepOs_mono h hv
    · simp at hv
theorem effO_mono (h : CfLe cf cf') {o : AO} {s : St} {e : Eff} (hv : effO cf o s = some e) : effO cf' o s = some e := by
  unfold effO at hv ⊢
  simp only at hv ⊢
  split at hv
  · split at hv
    · split at hv
      · split at hv
        · rename_i hs
          rw [if_pos (by assumption), stepVal_mono h hs]
          exact hv
        · simp at hv
      · simp at hv
    · simp at hv
  · exact hv
  · simp at hv
theorem drawOs_mono (h : CfLe cf cf') : ∀ {l : List AO} {s : St} {r : St × List Eff}, drawOs cf l s = some r → drawOs cf' l s = some r
  | [], s, r, hv => hv
  | o :: l, s, r, hv => by
    unfold drawOs at hv ⊢
    split at hv
    · rename_i e he
      rw [effO_mono h he]
      simp only
      split at hv
      · rename_i s1 es h1
        rw [drawOs_mono h h1]
        exact hv
      · simp at hv
    · simp at hv
theorem drawn_mono (h : CfLe cf cf') {l : List AO} {s s' : St} (hv : drawn cf l s = some s') : drawn cf' l s = some s' := by
  unfold drawn at hv ⊢
  split at hv
  · rename_i s1 es h1
    rw [drawOs_mono h h1]
    exact hv
  · simp at hv
end

section
variable {E : Env}
structure Mono (E : Env) (n : Nat) : Prop where
  run : ∀ c s r, run E n c s = some r → run E (n + 1) c s = some r
  call : CfLe (callF E n) (callF E (n + 1))
  body : ∀ f args m r, body E n f args m = some r → body E (n + 1) f args m = some r

theorem mono_step {n : Nat} (ih : Mono E n) : Mono E (n + 1) := by
  refine ⟨fun c s r h => ?_, fun g args m r h => ?_, fun f args m r h => ?_⟩
  · cases c with
    | skip => simpa [Am.run] using h
    | exit id => simpa [Am.run] using h
    | ret => simpa [Am.run] using h
    | scope c => rw [Am.run] at h ⊢; exact ih.run _ _ _ h
    | reg ops d =>
      rw [Am.run] at h ⊢
      split at h
      · rename_i s' hs
        have : (if (d && !still E ops) = true then drawn (callF E (n + 1)) ops s else stepOs (callF E (n + 1)) ops s) = some s' := by
          split at hs
          · rw [if_pos (by assumption)]; exact drawn_mono ih.call hs
          · rw [if_neg (by assumption)]; exact stepOs_mono ih.call hs
        rw [this]
        exact h
      · simp at h
    | seq a b =>
      rw [Am.run] at h ⊢
      split at h
      · rename_i s' hs
        rw [ih.run _ _ _ hs]
        exact ih.run _ _ _ h
      · rename_i r' hne
        rw [ih.run _ _ _ h]
        split
        · rename_i e
          cases e
          exact absurd h (hne _)
        · rfl
    | cond c a b =>
      rw [Am.run] at h ⊢
      split at h
      · exact ih.run _ _ _ h
      · exact ih.run _ _ _ h
      · simp at h
    | blk id c =>
      rw [Am.run] at h ⊢
      split at h
      · rename_i j s' hs
        rw [ih.run _ _ _ hs]
        exact h
      · rename_i r' hne
        rw [ih.run _ _ _ h]
        split
        · rename_i e
          cases e
          exact absurd h (hne _ _)
        · rfl
    | loop c =>
      rw [Am.run] at h ⊢
      split at h
      · rename_i s' hs
        rw [ih.run _ _ _ hs]
        exact ih.run _ _ _ h
      · rename_i r' hne
        rw [ih.run _ _ _ h]
        split
        · rename_i e
          cases e
          exact absurd h (hne _)
        · rfl
  · cases g with
    | func f =>
      rw [callF] at h ⊢
      split at h
      · exact h
      · split at h
        · simp at h
        · rename_i fn hf
          split at h
          · rename_i v m' hb
            rw [ih.body _ _ _ _ hb]
            exact h
          · simp at h
      · split at h
        · simp at h
        · rename_i fn hf
          split at h
          · simp at h
          · rename_i vs hvs
            split at h
            · rename_i v m' hb
              rw [ih.body _ _ _ _ hb]
              exact h
            · simp at h
      · split at h
        · simp at h
        · rename_i fn hf
          split at h
          · rename_i hb
            rw [if_pos hb]
            split at h
            · rename_i v m' hb'
              rw [ih.body _ _ _ _ hb']
              exact h
            · simp at h
          · simp at h
    | _ => simp [callF] at h
  · rw [Am.body] at h ⊢
    split at h
    · rw [if_pos (by assumption)]
      split at h
      · rename_i s hr
        rw [ih.run _ _ _ hr]
        exact h
      · rename_i s hr
        rw [ih.run _ _ _ hr]
        exact h
      · simp at h
    · simp at h

theorem mono : ∀ n, Mono E n
  | 0 => ⟨fun c s r h => by simp [Am.run] at h, fun g args m r h => by simp [callF] at h, fun f args m r h => by simp [Am.body] at h⟩
  | n + 1 => mono_step (mono n)

theorem run_le {n k : Nat} (h : n ≤ k) {c : AC} {s : St} {r : Ex × St} (hr : run E n c s = some r) : run E k c s = some r := by
  induction h with
  | refl => exact hr
  | step _ ih => exact (mono _).run _ _ _ ih
theorem callF_le {n k : Nat} (h : n ≤ k) : CfLe (callF E n) (callF E k) := by
  induction h with
  | refl => exact fun _ _ _ _ h => h
  | step _ ih => exact fun g a m r hr => (mono _).call _ _ _ _ (ih g a m r hr)
/-! ### Without fuel -/
structure Wp (E : Env) (c : AC) (s : St) (Q : Ex → St → Prop) : Prop where
  ex : ∃ n ex s', run E n c s = some (ex, s') ∧ Q ex s'
structure OpsW (E : Env) (ops : List AO) (s : St) (K : St → Prop) : Prop where
  ex : ∃ n s', stepOs (callF E n) ops s = some s' ∧ K s'
structure CallW (E : Env) (f : FuncId) (args : List AVal) (m : Mem) (K : AVal → Mem → Prop) : Prop where
  ex : ∃ n v m', callF E n (.func f) args m = some (v, m') ∧ K v m'
structure BodyW (E : Env) (fn : AFn) (args : List AVal) (m : Mem) (K : AVal → Mem → Prop) : Prop where
  ex : ∃ n v m', body E n fn args m = some (v, m') ∧ K v m'

/-- Behind the first of two. -/
inductive seqK (E : Env) (b : AC) (Q : Ex → St → Prop) : Ex → St → Prop where
  | n {s : St} (h : Wp E b s Q) : seqK E b Q .normal s
  | r {s : St} (h : Q .ret s) : seqK E b Q .ret s
  | x {s : St} {i : Nat} (h : Q (.exit i) s) : seqK E b Q (.exit i) s
inductive blkK (id : Nat) (Q : Ex → St → Prop) : Ex → St → Prop where
  | n {s : St} (h : Q .normal s) : blkK id Q .normal s
  | r {s : St} (h : Q .ret s) : blkK id Q .ret s
  | x {s : St} (h : Q .normal s) : blkK id Q (.exit id) s
  | y {s : St} {j : Nat} (hj : j ≠ id) (h : Q (.exit j) s) : blkK id Q (.exit j) s

section
variable {Q : Ex → St → Prop} {s : St}
theorem Wp.mono {c : AC} {Q' : Ex → St → Prop} (h : Wp E c s Q) (hq : ∀ e s', Q e s' → Q' e s') : Wp E c s Q' :=
  let ⟨n, e, s', h1, h2⟩ := h; ⟨n, e, s', h1, hq _ _ h2⟩
theorem aw_skip (h : Q .normal s) : Wp E .skip s Q := ⟨1, .normal, s, rfl, h⟩
theorem aw_ret (h : Q .ret s) : Wp E .ret s Q := ⟨1, .ret, s, rfl, h⟩
theorem aw_exit {id : Nat} (h : Q (.exit id) s) : Wp E (.exit id) s Q := ⟨1, .exit id, s, rfl, h⟩
theorem aw_scope {c : AC} (h : Wp E c s Q) : Wp E (.scope c) s Q := let ⟨n, e, s', h1, h2⟩ := h; ⟨n + 1, e, s', by rw [run]; exact h1, h2⟩
theorem aw_seq {a b : AC} (h : Wp E a s (seqK E b Q)) : Wp E (.seq a b) s Q := by
  obtain ⟨n, e, s1, h1, h2⟩ := h
  cases h2 with
  | n h2 =>
    obtain ⟨k, e, s2, h3, h4⟩ := h2
    refine ⟨max n k + 1, e, s2, ?_, h4⟩
    rw [run, run_le (Nat.le_max_left n k) h1]
    exact run_le (Nat.le_max_right n k) h3
  | x h2 => exact ⟨n + 1, .exit _, s1, by rw [run, h1], h2⟩
  | r h2 => exact ⟨n + 1, .ret, s1, by rw [run, h1], h2⟩
theorem aw_blk {id : Nat} {c : AC} (h : Wp E c s (blkK id Q)) : Wp E (.blk id c) s Q := by
  obtain ⟨n, e, s1, h1, h2⟩ := h
  cases h2 with
  | n h2 => exact ⟨n + 1, .normal, s1, by rw [run, h1], h2⟩
  | r h2 => exact ⟨n + 1, .ret, s1, by rw [run, h1], h2⟩
  | x h2 => exact ⟨n + 1, .normal, s1, by rw [run, h1]; simp only [if_true], h2⟩
  | y hj h2 => exact ⟨n + 1, .exit _, s1, by rw [run, h1]; simp only [if_neg hj], h2⟩
theorem aw_loop {c : AC} (h : Wp E c s (seqK E (.loop c) Q)) : Wp E (.loop c) s Q := by
  obtain ⟨n, e, s1, h1, h2⟩ := h
  cases h2 with
  | n h2 =>
    obtain ⟨k, e, s2, h3, h4⟩ := h2
    refine ⟨max n k + 1, e, s2, ?_, h4⟩
    rw [run, run_le (Nat.le_max_left n k) h1]
    exact run_le (Nat.le_max_right n k) h3
  | x h2 => exact ⟨n + 1, .exit _, s1, by rw [run, h1], h2⟩
  | r h2 => exact ⟨n + 1, .ret, s1, by rw [run, h1], h2⟩
theorem aw_cond {c : Arg} {a b : AC} {t : Bool} (hc : c.get s.slots = some (.sc (.bool t))) (h : Wp E (if t then a else b) s Q) : Wp E (.cond c a b) s Q := by
  obtain ⟨n, e, s1, h1, h2⟩ := h
  refine ⟨n + 1, e, s1, ?_, h2⟩
  rw [run, hc]
  cases t with
  | true => exact h1
  | false => exact h1
theorem aw_cond_if {c : Arg} {a b : AC} {t : Bool} (hc : c.get s.slots = some (.sc (.bool t))) (h1 : t = true → Wp E a s Q) (h2 : t = false → Wp E b s Q) : Wp E (.cond c a b) s Q := by
  cases t with
  | true => exact aw_cond hc (h1 rfl)
  | false => exact aw_cond hc (h2 rfl)
theorem aw_reg {ops : List AO} (h : OpsW E ops s (Q .normal)) : Wp E (.reg ops false) s Q := by
  obtain ⟨n, s1, h1, h2⟩ := h
  exact ⟨n + 1, .normal, s1, by rw [run]; simp [h1], h2⟩
theorem aw_still {ops : List AO} (hs : still E ops = true) (h : OpsW E ops s (Q .normal)) : Wp E (.reg ops true) s Q := by
  obtain ⟨n, s1, h1, h2⟩ := h
  exact ⟨n + 1, .normal, s1, by rw [run]; simp [h1, hs], h2⟩

variable {K : St → Prop}
theorem ops_nil (h : K s) : OpsW E [] s K := ⟨0, s, rfl, h⟩
theorem ops_cons {o : AO} {l : List AO} {v : AVal} {m : Mem} (hg : wantedA s.slots o.guard = some true) (hv : opVal s.slots s.mem o.op = some (v, m)) (h : OpsW E l ⟨setDst s.slots o.dst v, m⟩ K) : OpsW E (o :: l) s K := by
  obtain ⟨n, s1, h1, h2⟩ := h
  refine ⟨n, s1, ?_, h2⟩
  have : stepVal (callF E n) s.slots s.mem o.op = some (v, m) := by
    unfold stepVal
    split
    · rename_i heq
      rw [heq] at hv
      simp [opVal] at hv
    · exact hv
  rw [stepOs, stepO, hg]
  simp only [this]
  exact h1
theorem ops_skip {o : AO} {l : List AO} (hg : wantedA s.slots o.guard = some false) (h : OpsW E l ⟨setDst s.slots o.dst (.tup []), s.mem⟩ K) : OpsW E (o :: l) s K := by
  obtain ⟨n, s1, h1, h2⟩ := h
  refine ⟨n, s1, ?_, h2⟩
  rw [stepOs, stepO, hg]
  exact h1
theorem ops_call {o : AO} {l : List AO} {f : Arg} {asq : List Arg} {g : FuncId} {first cap vs : List AVal} (hg : wantedA s.slots o.guard = some true) (ho : o.op = .call f asq) (hf : f.get s.slots = some (.fn (.func g) first cap)) (ha : argAll s.slots asq = some vs)
    (h : CallW E g (first ++ vs ++ cap) s.mem fun v m => OpsW E l ⟨setDst s.slots o.dst v, m⟩ K) : OpsW E (o :: l) s K := by
  obtain ⟨n, v, m, h1, k, s1, h2, h3⟩ := h
  refine ⟨max n k, s1, ?_, h3⟩
  rw [stepOs, stepO, hg]
  simp only [stepVal, ho, hf, ha]
  rw [callF_le (Nat.le_max_left n k) _ _ _ _ h1]
  exact stepOs_mono (callF_le (Nat.le_max_right n k)) h2

/-! Calls -/
variable {f : FuncId} {fn : AFn} {args : List AVal} {m : Mem} {R : AVal → Mem → Prop}
theorem CallW.mono {R' : AVal → Mem → Prop} (h : CallW E f args m R) (hr : ∀ v m', R v m' → R' v m') : CallW E f args m R' :=
  let ⟨n, v, m', h1, h2⟩ := h; ⟨n, v, m', h1, hr _ _ h2⟩
theorem BodyW.mono {R' : AVal → Mem → Prop} (h : BodyW E fn args m R) (hr : ∀ v m', R v m' → R' v m') : BodyW E fn args m R' :=
  let ⟨n, v, m', h1, h2⟩ := h; ⟨n, v, m', h1, hr _ _ h2⟩
theorem call_open (hm : E.mode f = .open_) (hf : E.fns f = some fn) (h : BodyW E fn args ⟨m.heap, m.next, m.next⟩ fun v m' => R v ⟨m'.heap, m'.next, min m.low m'.low⟩) : CallW E f args m R := by
  obtain ⟨n, v, m', h1, h2⟩ := h
  exact ⟨n + 1, v, _, by rw [callF, hm]; simp only [hf, h1], h2⟩
theorem call_known (hm : E.mode f = .known) {v : AVal} {m' : Mem} (hk : E.known f args m = some (v, m')) (h : R v m') : CallW E f args m R :=
  ⟨1, v, m', by rw [callF, hm]; exact hk, h⟩
theorem call_flat (hm : E.mode f = .iso false) (hf : E.fns f = some fn) {vs : List AVal} (hv : viewAll m args = some vs) (h : BodyW E fn vs ⟨.nil, 0, 0⟩ fun v m' => (v.flat || (v.bare && args.all AVal.bare)) = true ∧ R v m) : CallW E f args m R := by
  obtain ⟨n, v, m', h1, h2, h3⟩ := h
  exact ⟨n + 1, v, m, by rw [callF, hm]; simp only [hf, hv, h1, Bool.false_eq_true, if_false, if_pos h2], h3⟩
theorem call_frz (hm : E.mode f = .iso true) (hf : E.fns f = some fn) {vs : List AVal} (hb : args.all AVal.bare = true) (h : BodyW E fn args ⟨.nil, 0, 0⟩ fun v m' => ∃ u, view m' 64 v = some u ∧ R u m) (hv : viewAll m args = some args) : CallW E f args m R := by
  obtain ⟨n, v, m', h1, u, h2, h3⟩ := h
  exact ⟨n + 1, u, m, by rw [callF, hm]; simp only [hf, hv, h1, if_true, hb, h2], h3⟩
theorem viewAll_of_bare {m : Mem} : ∀ {l : List AVal}, l.all AVal.bare = true → viewAll m l = some l
  | [], _ => rfl
  | v :: r, h => by
    simp only [List.all_cons, Bool.and_eq_true] at h
    unfold viewAll
    rw [if_pos h.1, viewAll_of_bare h.2]
/-- What a body hands back. -/
def retK (fn : AFn) (R : AVal → Mem → Prop) : Ex → St → Prop
  | .exit _, _ => False
  | _, s => ∃ vs, results1 s fn.results = some vs ∧ R (resultV vs) s.mem
theorem body_of (hl : args.length ≤ fn.ntmps) (h : Wp E fn.code ⟨argSlots args 0 .nil, m⟩ (retK fn R)) : BodyW E fn args m R := by
  obtain ⟨n, e, s, h1, h2⟩ := h
  cases e with
  | normal =>
    obtain ⟨vs, h3, h4⟩ := h2
    exact ⟨n + 1, resultV vs, s.mem, by rw [body, if_pos hl, h1]; simp [h3], h4⟩
  | ret =>
    obtain ⟨vs, h3, h4⟩ := h2
    exact ⟨n + 1, resultV vs, s.mem, by rw [body, if_pos hl, h1]; simp [h3], h4⟩
  | exit id => exact h2.elim
end
end
end Go.Am
