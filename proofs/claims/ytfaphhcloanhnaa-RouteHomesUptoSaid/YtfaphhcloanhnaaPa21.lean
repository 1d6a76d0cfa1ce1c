/- Parts of the proof, joined by program: AmView, AmRun. -/
import Derived.Test.YtfaphhcloanhnaaPa20
set_option linter.unusedSimpArgs false
set_option linter.unusedVariables false
namespace Go.Am

theorem bareAll_mem : ∀ {l : List AVal}, bareAll l = true → ∀ c ∈ l, c.bare = true
  | [], h, c, hc => by simp at hc
  | v :: r, h, c, hc => by
    simp only [bareAll, Bool.and_eq_true] at h
    simp at hc
    rcases hc with rfl | hc
    · exact h.1
    · exact bareAll_mem h.2 c hc
theorem flatAll_mem : ∀ {l : List AVal}, flatAll l = true → ∀ c ∈ l, c.flat = true
  | [], h, c, hc => by simp at hc
  | v :: r, h, c, hc => by
    simp only [flatAll, Bool.and_eq_true] at h
    simp at hc
    rcases hc with rfl | hc
    · exact h.1
    · exact flatAll_mem h.2 c hc

section
variable {P : Program} {cf : CallF} {ι ι1 : Inj} {S S1 : Nat → Prop} {w w1 : World}

theorem bare_rep {a : AVal} {v : Value} (h : Rep ι S w a v) (hS : ∀ b, S b → S1 b) (hb : a.bare = true) : Rep ι1 S1 w a v := by
  induction h with
  | sc h => exact .sc h
  | ptr h => simp [AVal.bare] at hb
  | ro vs hs hc hr ho ih =>
    simp only [AVal.bare] at hb
    exact .ro vs (fun h => ⟨(hs h).1, hS _ (hs h).2⟩) hc (fun j c hj => ih j c hj (bareAll_mem hb c (List.mem_of_getElem? hj))) ho
  | sl h hl hk' ha hroom => simp [AVal.bare] at hb
  | rs vs hl hk' hs hc hr ho ih =>
    simp only [AVal.bare] at hb
    exact .rs vs hl hk' (fun h => ⟨(hs h).1, hS _ (hs h).2⟩) hc (fun j c hj => ih j c hj (bareAll_mem hb c (List.mem_of_getElem? hj))) ho
  | mp h => simp [AVal.bare] at hb
  | fn h1 h2 hf hc ih1 ih2 =>
    simp only [AVal.bare, Bool.and_eq_true] at hb
    exact .fn h1 h2 (fun j c v hj hv => ih1 j c v hj hv (bareAll_mem hb.1 c (List.mem_of_getElem? hj))) (fun j c v hj hv => ih2 j c v hj hv (bareAll_mem hb.2 c (List.mem_of_getElem? hj)))
  | agg hl hr ih =>
    simp only [AVal.bare] at hb
    exact .agg hl fun j c v hj hv => ih j c v hj hv (bareAll_mem hb c (List.mem_of_getElem? hj))
  | tup hl hr ih =>
    simp only [AVal.bare] at hb
    exact .tup hl fun j c v hj hv => ih j c v hj hv (bareAll_mem hb c (List.mem_of_getElem? hj))

theorem flat_rep {a : AVal} {v : Value} (h : Rep ι S w a v) (hb : a.flat = true) : Rep ι1 S1 w1 a v := by
  induction h with
  | sc h => exact .sc h
  | agg hl hr ih =>
    simp only [AVal.flat] at hb
    exact .agg hl fun j c v hj hv => ih j c v hj hv (flatAll_mem hb c (List.mem_of_getElem? hj))
  | tup hl hr ih =>
    simp only [AVal.flat] at hb
    exact .tup hl fun j c v hj hv => ih j c v hj hv (flatAll_mem hb c (List.mem_of_getElem? hj))
  | _ => simp [AVal.flat] at hb

theorem mapM_opt {α β : Type} {f : α → Option β} : ∀ {l : List α} {r : List β}, l.mapM f = some r → r.length = l.length ∧ ∀ (j : Nat) b, r[j]? = some b → ∃ a, l[j]? = some a ∧ f a = some b
  | [], r, h => by
    simp at h
    subst h
    exact ⟨rfl, fun j b hb => by simp at hb⟩
  | a :: l, r, h => by
    rw [List.mapM_cons] at h
    cases h1 : f a with
    | none => rw [h1] at h; simp at h
    | some b =>
      cases h2 : l.mapM f with
      | none => rw [h1, h2] at h; simp at h
      | some bs =>
        rw [h1, h2] at h
        simp at h
        subst h
        obtain ⟨k1, k2⟩ := mapM_opt h2
        refine ⟨by simp [k1], fun j x hx => ?_⟩
        cases j with
        | zero => simp at hx; subst hx; exact ⟨a, rfl, h1⟩
        | succ j => exact k2 j x (by simpa using hx)

theorem view_one {m : Mem} : ∀ {f : Nat} {a a' : AVal}, view m f a = some a' → a.one = true → a'.one = true
  | 0, a, a', h, ho => by simp [view] at h
  | f + 1, a, a', h, ho => by
    cases a with
    | agg cs => simp [AVal.one] at ho
    | tup cs => simp [AVal.one] at ho
    | sc v => simp only [view, Option.some.injEq] at h; subst h; rfl
    | ptr id off =>
      simp only [view] at h
      split at h
      · split at h
        · simp only [Option.map_eq_some_iff] at h
          obtain ⟨x, _, rfl⟩ := h
          rfl
        · simp at h
      · simp at h
    | sl id off len esz cap =>
      simp only [view] at h
      split at h
      · split at h
        · simp only [Option.map_eq_some_iff] at h
          obtain ⟨x, _, rfl⟩ := h
          rfl
        · simp at h
      · simp at h
    | fn g x y =>
      simp only [view] at h
      split at h
      · simp only [Option.some.injEq] at h; subst h; rfl
      · simp at h
    | ro cs => simp only [view] at h; split at h <;> simp only [Option.some.injEq, reduceCtorEq] at h; subst h; rfl
    | rs cs l c => simp only [view] at h; split at h <;> simp only [Option.some.injEq, reduceCtorEq] at h; subst h; rfl
    | mp id => simp only [view] at h; split at h <;> simp only [Option.some.injEq, reduceCtorEq] at h; subst h; rfl

theorem view_rep {m : Mem} (hm : MRel ι S m.heap.get w) (hS : ∀ b, S b → S1 b) (hO : ∀ b, Own ι m.heap.get b → S1 b) :
    ∀ {f : Nat} {a a' : AVal} {v : Value}, view m f a = some a' → Rep ι S w a v → Rep ι1 S1 w a' v
  | 0, a, a', v, h, hr => by simp [view] at h
  | f + 1, a, a', v, h, hr => by
    have ih := @view_rep m hm hS hO f
    -- cells of a box, asq a row
    have hrow : ∀ {id b o p n : Nat} {cs r r' : List AVal}, m.cells id = some cs → ι id = some (b, o) → r = (cs.drop p).take n → p + n ≤ cs.length → r.mapM (view m f) = some r' →
        ∃ vs : Nat → Value, S1 b ∧ (∀ j, j < r'.length → w.cell? ⟨b, o + p + j, none⟩ = some (vs j)) ∧ (∀ (j : Nat) c, r'[j]? = some c → Rep ι1 S1 w c (vs j)) ∧ ∀ c ∈ r', c.one = true := by
      intro id b o p n cs r r' hcs hid hreq hle hmap
      obtain ⟨vs, el, hb, hlen, hrep, hone, hnS⟩ := box_cells hm hcs hid
      obtain ⟨hl, hget⟩ := mapM_opt hmap
      have hrl : r.length = n := by rw [hreq]; simp; omega
      refine ⟨fun j => vs.getD (o + p + j) default, hO b ⟨id, _, o, cells_spec hcs, hid⟩, fun j hj => ?_, fun j c hc => ?_, fun c hc => ?_⟩
      · have : o + p + j < vs.size := by omega
        simp only [World.cell?, hb, Option.isSome_none, Bool.false_eq_true, if_false]
        simp [this]
      · obtain ⟨x, hx, hv⟩ := hget j c hc
        have hj : j < n := by have := (List.getElem?_eq_some_iff.1 hx).1; omega
        have hlt : o + p + j < vs.size := by omega
        refine ih hv (hrep.2 (p + j) x _ ?_ ?_)
        · rw [hreq, List.getElem?_take, if_pos hj, List.getElem?_drop] at hx
          exact hx
        · rw [List.getElem?_take, if_pos (by omega), List.getElem?_drop]
          simp [← Nat.add_assoc, hlt]
      · obtain ⟨j, hj⟩ := List.getElem?_of_mem hc
        obtain ⟨x, hx, hv⟩ := hget j c hj
        refine view_one hv (hone x ?_)
        rw [hreq] at hx
        exact List.mem_of_mem_drop (List.mem_of_mem_take (List.mem_of_getElem? hx))
    have hlist : ∀ {cs r' : List AVal} {us : List Value}, cs.mapM (view m f) = some r' → RepL ι S w cs us → RepL ι1 S1 w r' us := by
      intro cs r' us hmap hu
      obtain ⟨hl, hget⟩ := mapM_opt hmap
      refine ⟨hl.trans hu.1, fun j c u hc hv => ?_⟩
      obtain ⟨x, hx, hvw⟩ := hget j c hc
      exact ih hvw (hu.2 j x u hx hv)
    cases a with
    | sc x => simp only [view, Option.some.injEq] at h; subst h; exact flat_rep hr rfl
    | ptr id off =>
      simp only [view] at h
      split at h
      · rename_i cs hcs
        split at h
        · rename_i hoff
          simp only [Option.map_eq_some_iff] at h
          obtain ⟨r, hmap, rfl⟩ := h
          obtain ⟨b, o, hid, rfl⟩ := rep_ptr hr
          obtain ⟨vs, k1, k2, k3, k4⟩ := hrow (p := off) (n := cs.length - off) hcs hid (by rw [List.take_of_length_le (by simp)]) (by omega) hmap
          exact .ro vs (fun _ => ⟨rfl, k1⟩) k2 k3 k4
        · simp at h
      · simp at h
    | sl id off len esz cap =>
      simp only [view] at h
      split at h
      · rename_i cs hcs
        split at h
        · rename_i r0 hseg
          simp only [Option.map_eq_some_iff] at h
          obtain ⟨r, hmap, rfl⟩ := h
          obtain ⟨b, o, c, a, rfl, hid, hl, hk, ha, hroom⟩ := rep_sl hr
          obtain ⟨hle, hreq⟩ := seg_spec hseg
          obtain ⟨vs, k1, k2, k3, k4⟩ := hrow (p := off) (n := len * esz) hcs hid hreq hle hmap
          have hz : 0 < r.length → c ≠ 0 := by
            intro hpos h0
            have hlen0 : len = 0 := by omega
            have := (mapM_opt hmap).1
            rw [hreq, hlen0] at this
            simp at this
            rw [this] at hpos
            simp at hpos
          refine .rs vs hl hk (fun hp => ?_) (fun j hj => ?_) k3 k4
          · rw [ha (hz hp)]
            exact ⟨rfl, k1⟩
          · rw [ha (hz (by omega))]
            exact k2 j hj
        · simp at h
      · simp at h
    | agg cs =>
      simp only [view, Option.map_eq_some_iff] at h
      obtain ⟨r, hmap, rfl⟩ := h
      obtain ⟨vs, rfl, hu⟩ := rep_agg hr
      exact rep_agg_mk (hlist hmap hu)
    | tup cs =>
      simp only [view, Option.map_eq_some_iff] at h
      obtain ⟨r, hmap, rfl⟩ := h
      obtain ⟨vs, rfl, hu⟩ := rep_tup hr
      have := hlist hmap hu
      exact .tup (by simpa using this.1) fun j c v hc hv => this.2 j c v hc (by simpa using hv)
    | fn g x y =>
      simp only [view] at h
      split at h
      · rename_i x' y' hx hy
        simp only [Option.some.injEq] at h
        subst h
        obtain ⟨vf, vc, rfl, h1, h2⟩ := rep_fn hr
        have q1 := hlist hx h1
        have q2 := hlist hy h2
        exact .fn (by simpa using q1.1) (by simpa using q2.1) (fun j c v hc hv => q1.2 j c v hc (by simpa using hv)) (fun j c v hc hv => q2.2 j c v hc (by simpa using hv))
      · simp at h
    | ro cs => simp only [view] at h; split at h <;> simp only [Option.some.injEq, reduceCtorEq] at h; subst h; exact bare_rep hr hS (by assumption)
    | rs cs l c => simp only [view] at h; split at h <;> simp only [Option.some.injEq, reduceCtorEq] at h; subst h; exact bare_rep hr hS (by assumption)
    | mp id => simp only [view] at h; split at h <;> simp only [Option.some.injEq, reduceCtorEq] at h; subst h; exact bare_rep hr hS (by assumption)

theorem viewAll_rep {m : Mem} (hm : MRel ι S m.heap.get w) (hS : ∀ b, S b → S1 b) (hO : ∀ b, Own ι m.heap.get b → S1 b) :
    ∀ {asq as' : List AVal} {vs : List Value}, viewAll m asq = some as' → RepL ι S w asq vs → RepL ι1 S1 w as' vs
  | [], as', vs, h, hr => by
    simp [viewAll] at h
    subst h
    exact ⟨hr.1, fun j c v hc => by simp at hc⟩
  | a :: r, as', [], h, hr => by have := hr.1; simp at this
  | a :: r, as', v :: vs, h, hr => by
    unfold viewAll at h
    split at h
    · rename_i x xs hx hxs
      simp only [Option.some.injEq] at h
      subst h
      have h1 : Rep ι S w a v := hr.2 0 a v rfl rfl
      have h2 : RepL ι S w r vs := ⟨by simpa using hr.1, fun j c u hc hu => hr.2 (j + 1) c u (by simpa using hc) (by simpa using hu)⟩
      have q1 : Rep ι1 S1 w x v := by
        split at hx
        · rename_i hb
          simp only [Option.some.injEq] at hx
          subst hx
          exact bare_rep h1 hS hb
        · exact view_rep hm hS hO hx h1
      have q2 := viewAll_rep hm hS hO hxs h2
      refine ⟨by simp [q2.1], fun j c u hc hu => ?_⟩
      cases j with
      | zero => simp at hc hu; subst hc hu; exact q1
      | succ j => exact q2.2 j c u (by simpa using hc) (by simpa using hu)
    · simp at h
theorem viewAll_bare {m : Mem} : ∀ {asq as' : List AVal}, viewAll m asq = some as' → asq.all AVal.bare = true → as' = asq
  | [], as', h, hb => by simp [viewAll] at h; exact h
  | a :: r, as', h, hb => by
    simp only [List.all_cons, Bool.and_eq_true] at hb
    unfold viewAll at h
    rw [if_pos hb.1] at h
    split at h
    · rename_i x xs hx hxs
      simp only [Option.some.injEq] at h hx
      rw [viewAll_bare hxs hb.2] at h
      rw [← h, hx]
    · simp at h

/-! ### Results -/
def resOne (t : Array Value) : ResultVar → Sem Value
  | .tmp x => pure (t.getD x undef)
  | .cell a ty => do loadVar ty (← asAddr (t.getD a undef))
theorem results_eq (fn : Func) (t : Array Value) : results fn t = (fn.results.mapM (resOne t) >>= fun vs => pure (if h : vs.size = 1 then vs[0] else .tuple vs)) := rfl

theorem results1_ok {s : St} {t : Array Value} (hs : SRel ι S w s.slots.get t) (hm : MRel ι S s.mem.heap.get w) : ∀ {l : List ResultVar} {ar : List AR} {vs : List AVal},
    compRes P l = some ar → results1 s ar = some vs → ∃ us : List Value, ((l.mapM (resOne t)).run P w = .ok us w) ∧ RepL ι S w vs us
  | [], ar, vs, hc, hv => by
    simp [compRes] at hc
    subst hc
    simp [results1] at hv
    subst hv
    exact ⟨[], by simp, rfl, fun j c v hc => by simp at hc⟩
  | .tmp x :: l, ar, vs, hc, hv => by
    simp only [compRes, Option.map_eq_some_iff] at hc
    obtain ⟨ar', hc', rfl⟩ := hc
    unfold results1 at hv
    split at hv
    · rename_i v vs' h1 h2
      simp only [Option.some.injEq] at hv
      subst hv
      obtain ⟨us, k1, k2⟩ := results1_ok hs hm hc' h2
      obtain ⟨u, g1, g2⟩ := hs x v h1
      refine ⟨u :: us, ?_, by simp [k2.1], fun j c y hc hy => ?_⟩
      · have : t.getD x undef = u := by simp [g1]
        rw [List.mapM_cons]
        simp only [Sem.run_bind, Sem.run_pure, Result.andThen_ok, resOne, this, k1]
      · cases j with
        | zero => simp at hc hy; subst hc hy; exact g2
        | succ j => exact k2.2 j c y (by simpa using hc) (by simpa using hy)
    · simp at hv
  | .cell a ty :: l, ar, vs, hc, hv => by
    unfold compRes at hc
    split at hc
    · rename_i g n ar' hg hn hc'
      simp only [Option.some.injEq] at hc
      subst hc
      unfold results1 at hv
      split at hv
      · rename_i id off h1
        split at hv
        · rename_i cs hcs
          split at hv
          · rename_i r hr
            split at hv
            · rename_i v vs' hx h2
              simp only [Option.some.injEq] at hv
              subst hv
              obtain ⟨us, k1, k2⟩ := results1_ok hs hm hc' h2
              obtain ⟨u, g1, g2⟩ := hs a _ h1
              obtain ⟨b, o', hid, e1⟩ := rep_ptr g2
              subst e1
              obtain ⟨us0, el, hb, hlen, hrep, hone, _⟩ := box_cells hm hcs hid
              have hsg := hrep.seg hr
              obtain ⟨hl, hreq⟩ := seg_spec hr
              obtain ⟨q, hq⟩ : ∃ q, q = if g = true then n else 1 := ⟨_, rfl⟩
              rw [← hq] at hsg hl hreq
              have hrl : r.length = q := by rw [hreq]; simp; omega
              obtain ⟨u, hu, hru⟩ := run_loadVar_at (P := P) (ad := ⟨b, o' + off, none⟩) hg hn (hrl.trans hq) hsg (fun j hj => by
                rw [addr_add_mk]
                simp only [World.cell?, hb, Option.isSome_none, Bool.false_eq_true, if_false]
                rw [List.getElem?_take, if_pos (by omega), List.getElem?_drop, List.getElem?_take, if_pos (by omega), List.getElem?_drop]
                simp [Nat.add_assoc]) hx
              refine ⟨u :: us, ?_, by simp [k2.1], fun j c y hc hy => ?_⟩
              · have : t.getD a undef = .pointer (some ⟨b, o' + off, none⟩) := by simp [g1]
                rw [List.mapM_cons]
                simp only [Sem.run_bind, Sem.run_pure, Result.andThen_ok, resOne, this, asAddr, hu, k1]
              · cases j with
                | zero => simp at hc hy; subst hc hy; exact hru
                | succ j => exact k2.2 j c y (by simpa using hc) (by simpa using hy)
            · simp at hv
          · simp at hv
        · simp at hv
      · simp at hv
    · simp at hc

theorem results_ok {fn : Func} {s : St} {t : Array Value} {ar : List AR} {vs : List AVal} (hs : SRel ι S w s.slots.get t) (hm : MRel ι S s.mem.heap.get w)
    (hc : compRes P fn.results.toList = some ar) (hv : results1 s ar = some vs) : ∃ u, (results fn t).run P w = .ok u w ∧ Rep ι S w (resultV vs) u := by
  obtain ⟨us, h1, h2⟩ := results1_ok hs hm hc hv
  have h3 : (fn.results.mapM (resOne t)).run P w = .ok us.toArray w := by
    rw [Array.mapM_eq_mapM_toList]
    simp only [Sem.run_map, h1]
    rfl
  refine ⟨if h : us.toArray.size = 1 then us.toArray[0] else .tuple us.toArray, ?_, ?_⟩
  · rw [results_eq]
    simp only [Sem.run_bind, h3, Result.andThen_ok, Sem.run_pure]
  · match us, vs, h2 with
    | [u], [v], h2 => exact h2.2 0 v u rfl rfl
    | [], [], h2 => exact .tup rfl fun j c v hc => by simp at hc
    | a :: b :: us, c :: d :: vs, h2 => 
      have : ¬ (a :: b :: us).toArray.size = 1 := by simp
      rw [dif_neg this]
      exact .tup (by simpa using h2.1) fun j c v hc hv => h2.2 j c v hc (by simpa using hv)
    | [], _ :: _, h2 => exact absurd h2.1 (by simp)
    | [_], [], h2 => exact absurd h2.1 (by simp)
    | [_], _ :: _ :: _, h2 => exact absurd h2.1 (by simp)
    | _ :: _ :: _, [], h2 => exact absurd h2.1 (by simp)
    | _ :: _ :: _, [_], h2 => exact absurd h2.1 (by simp)
end
end Go.Am
namespace Go.Am

structure EnvOk (P : Program) (E : Env) : Prop where
  orders : P.follows .mixedOrders = true
  fns : ∀ f fn', E.fns f = some fn' → ∃ fn, P.funcs[f]? = some fn ∧ (fn.name == "runtime.NumGoroutine") = false ∧ compFn P fn = some fn'
  grow : ∀ f args m v m', E.known f args m = some (v, m') → Grow m m'
  known : ∀ f args m v m', E.known f args m = some (v, m') → ∃ fn, P.funcs[f]? = some fn ∧ (fn.name == "runtime.NumGoroutine") = false ∧ fn.body.isSome = true ∧ Sim P f args m v m'

def exOf : Ex → Exit
  | .normal => .normal
  | .exit id => .exit id
  | .ret => .ret

section
variable {P : Program} {E : Env} {ι ι1 : Inj} {S S1 : Nat → Prop} {w w1 : World} {m m1 m2 : Mem}

theorem fresh_fst (hf : ∀ id, m.next ≤ id → id < m2.next → ι id = none) (h : Grow m1 m2) : ∀ id, m.next ≤ id → id < m1.next → ι id = none :=
  fun id h1 h2 => hf id h1 (Nat.lt_of_lt_of_le h2 h.next)
theorem fresh_snd (hf : ∀ id, m.next ≤ id → id < m2.next → ι id = none) (h : Sp ι S m w m1 ι1 S1 w1) : ∀ id, m1.next ≤ id → id < m2.next → ι1 id = none := by
  intro id h1 h2
  apply Classical.byContradiction
  intro hne
  rcases h.news id hne with e | e
  · exact e (hf id (Nat.le_trans h.grow.next h1) h2)
  · omega

theorem compFn_spec {fn : Func} {afn : AFn} (h : compFn P fn = some afn) : ∃ c, fn.body = some c ∧ comp P fn.ntmps c = some afn.code ∧ compRes P fn.results.toList = some afn.results ∧ afn.ntmps = fn.ntmps := by
  unfold compFn at h
  split at h
  · simp at h
  · rename_i c hc
    split at h
    · rename_i ac ar h1 h2
      simp only [Option.some.injEq] at h
      subst h
      exact ⟨c, hc, h1, h2, rfl⟩
    · simp at h

theorem argSlots_get : ∀ (l : List AVal) (i : Nat) (t : Tr AVal) (j : Nat), (argSlots l i t).get j = if i ≤ j ∧ j < i + l.length then l[j - i]? else t.get j
  | [], i, t, j => by simp [argSlots]; intros; omega
  | v :: r, i, t, j => by
    rw [argSlots, argSlots_get r (i + 1) _ j, Tr.get_set]
    by_cases h1 : i + 1 ≤ j ∧ j < i + 1 + r.length
    · rw [if_pos h1, if_pos ⟨by omega, by simp; omega⟩]
      have : j - i = (j - (i + 1)) + 1 := by omega
      rw [this, List.getElem?_cons_succ]
    · rw [if_neg h1]
      by_cases h2 : j = i
      · subst h2
        simp
      · rw [if_neg h2, if_neg (by simp; omega)]

/-- What an answer of the evaluator's says of code. -/
def CodeOk (P : Program) (c : Code) (nt : Nat) (s : St) (ex : Ex) (s' : St) : Prop :=
  Grow s.mem s'.mem ∧ ∀ (ι : Inj) (S : Nat → Prop) (w : World) (a : Act) (Q : Exit → Act → World → Prop), StRel ι S w s a nt → (∀ id, s.mem.next ≤ id → id < s'.mem.next → ι id = none) →
    (∀ a' w' ι' S', Sp ι S s.mem w s'.mem ι' S' w' → StRel ι' S' w' s' a' nt → Q (exOf ex) a' w') → c.wp P Q a w
def LoopOk (P : Program) (c : Code) (nt n : Nat) (s : St) (ex : Ex) (s' : St) : Prop :=
  Grow s.mem s'.mem ∧ ∀ (ι : Inj) (S : Nat → Prop) (w : World) (a : Act) (Q : Exit → Act → World → Prop), StRel ι S w s a nt → (∀ id, s.mem.next ≤ id → id < s'.mem.next → ι id = none) →
    (∀ a' w' ι' S', Sp ι S s.mem w s'.mem ι' S' w' → StRel ι' S' w' s' a' nt → Q (exOf ex) a' w') → Code.rounds P c Q n a w
def BodyOk (P : Program) (fn : Func) (args : List AVal) (m : Mem) (v : AVal) (m' : Mem) : Prop :=
  Grow m m' ∧ ∀ (f : FuncId) (ι : Inj) (S : Nat → Prop) (w : World) (vargs : List Value), P.funcs[f]? = some fn → RepL ι S w args vargs → MRel ι S m.heap.get w → (∀ id, m.next ≤ id → id < m'.next → ι id = none) →
    Calls P f vargs.toArray w fun e w' => ∃ u ι' S', e = .returned u ∧ Post ι S m w v m' u ι' S' w'

structure Claim (P : Program) (E : Env) (n : Nat) : Prop where
  code : ∀ (c : Code) ac nt s ex s', comp P nt c = some ac → run E n ac s = some (ex, s') → CodeOk P c nt s ex s'
  loop : ∀ (c : Code) ac nt s ex s', comp P nt c = some ac → run E n (.loop ac) s = some (ex, s') → LoopOk P c nt n s ex s'
  call : CfOk P (callF E n)
  body : ∀ fn afn args m v m', compFn P fn = some afn → body E n afn args m = some (v, m') → BodyOk P fn args m v m'

theorem claim_loop {n : Nat} (ih : Claim P E n) {c : Code} {ac : AC} {nt : Nat} {s : St} {ex : Ex} {s' : St} (hc : comp P nt c = some ac) (h : run E (n + 1) (.loop ac) s = some (ex, s')) : LoopOk P c nt (n + 1) s ex s' := by
  simp only [run] at h
  split at h
  · rename_i s1 h1
    obtain ⟨g1, k1⟩ := ih.code c ac nt s _ _ hc h1
    obtain ⟨g2, k2⟩ := ih.loop c ac nt s1 ex s' hc h
    refine ⟨g1.trans g2, fun ι S w a Q hr hf K => ?_⟩
    rw [rounds_succ]
    exact k1 ι S w a _ hr (fresh_fst hf g2) fun a' w' ι' S' hsp hst => k2 ι' S' w' a' Q hst (fresh_snd hf hsp) fun a'' w'' ι'' S'' hsp' hst' => K a'' w'' ι'' S'' (hsp.trans hsp') hst'
  · rename_i r hne
    obtain ⟨g1, k1⟩ := ih.code c ac nt s _ _ hc h
    refine ⟨g1, fun ι S w a Q hr hf K => ?_⟩
    rw [rounds_succ]
    refine k1 ι S w a _ hr hf fun a' w' ι' S' hsp hst => ?_
    have := K a' w' ι' S' hsp hst
    cases ex with
    | normal => exact absurd h (hne s')
    | exit id => exact this
    | ret => exact this

theorem claim_code {n : Nat} (ih : Claim P E n) (hP : P.follows .mixedOrders = true) {c : Code} {ac : AC} {nt : Nat} {s : St} {ex : Ex} {s' : St} (hc : comp P nt c = some ac) (h : run E (n + 1) ac s = some (ex, s')) : CodeOk P c nt s ex s' := by
  cases c <;> simp only [comp, reduceCtorEq] at hc
  case skip =>
    simp only [Option.some.injEq] at hc
    subst hc
    simp only [run, Option.some.injEq, Prod.mk.injEq] at h
    obtain ⟨rfl, rfl⟩ := h
    exact ⟨Grow.refl _, fun ι S w a Q hr hf K => wp_skip (K a w ι S (Sp.refl _ _ _ _) hr)⟩
  case label l =>
    simp only [Option.some.injEq] at hc
    subst hc
    simp only [run, Option.some.injEq, Prod.mk.injEq] at h
    obtain ⟨rfl, rfl⟩ := h
    exact ⟨Grow.refl _, fun ι S w a Q hr hf K => wp_label (K a w ι S (Sp.refl _ _ _ _) hr)⟩
  case ret =>
    simp only [Option.some.injEq] at hc
    subst hc
    simp only [run, Option.some.injEq, Prod.mk.injEq] at h
    obtain ⟨rfl, rfl⟩ := h
    exact ⟨Grow.refl _, fun ι S w a Q hr hf K => wp_ret (K a w ι S (Sp.refl _ _ _ _) hr)⟩
  case exit id =>
    simp only [Option.some.injEq] at hc
    subst hc
    simp only [run, Option.some.injEq, Prod.mk.injEq] at h
    obtain ⟨rfl, rfl⟩ := h
    exact ⟨Grow.refl _, fun ι S w a Q hr hf K => wp_exit (K a w ι S (Sp.refl _ _ _ _) hr)⟩
  case region id ops d =>
    cases d with
    | true =>
      simp only at hc
      split at hc
      · rename_i hok
        simp only [Option.map_eq_some_iff] at hc
        obtain ⟨l, hl, rfl⟩ := hc
        simp only [run] at h
        split at h
        · rename_i s1 h1
          simp only [Option.some.injEq, Prod.mk.injEq] at h
          obtain ⟨rfl, rfl⟩ := h
          obtain ⟨es, hL⟩ : ∃ es, Laid (callF E n) l s s1 es := by
            cases hst : still E l with
            | true =>
              rw [hst] at h1
              exact still_laid ih.call hst h1
            | false =>
              rw [hst] at h1
              exact laid_of ih.call h1
          exact ⟨hL.grow, fun ι S w a Q hr hf K => laid_wp ih.call hP hl hok.1 hok.2 hL hr hf K⟩
        · simp at h
      · simp at hc
    | false =>
      simp only [Option.map_eq_some_iff] at hc
      obtain ⟨l, hl, rfl⟩ := hc
      simp only [run, Bool.false_and, Bool.false_eq_true, if_false] at h
      split at h
      · rename_i s1 h1
        simp only [Option.some.injEq, Prod.mk.injEq] at h
        obtain ⟨rfl, rfl⟩ := h
        refine ⟨stepOs_grow ih.call h1, fun ι S w a Q hr hf K => wp_region ?_⟩
        rw [List.range_eq_range', show ops.size = ops.toList.length by simp]
        exact stepOs_wp ih.call (ops := ops) ops.toList 0 l s s1 ι S w a rfl hl h1 hr hf K
      · simp at h
  case seq x y =>
    split at hc
    · rename_i ax ay hx hy
      simp only [Option.some.injEq] at hc
      subst hc
      simp only [run] at h
      split at h
      · rename_i s1 h1
        obtain ⟨g1, k1⟩ := ih.code x ax nt s _ _ hx h1
        obtain ⟨g2, k2⟩ := ih.code y ay nt s1 ex s' hy h
        exact ⟨g1.trans g2, fun ι S w a Q hr hf K => wp_seq (k1 ι S w a _ hr (fresh_fst hf g2) fun a' w' ι' S' hsp hst => k2 ι' S' w' a' Q hst (fresh_snd hf hsp) fun a'' w'' ι'' S'' hsp' hst' => K a'' w'' ι'' S'' (hsp.trans hsp') hst')⟩
      · rename_i r hne
        obtain ⟨g1, k1⟩ := ih.code x ax nt s _ _ hx h
        refine ⟨g1, fun ι S w a Q hr hf K => wp_seq (k1 ι S w a _ hr hf fun a' w' ι' S' hsp hst => ?_)⟩
        have := K a' w' ι' S' hsp hst
        cases ex with
        | normal => exact absurd h (hne s')
        | exit id => exact this
        | ret => exact this
    · simp at hc
  case cond cc x y =>
    split at hc
    · rename_i acc ax ay hcc hx hy
      simp only [Option.some.injEq] at hc
      subst hc
      simp only [run] at h
      split at h
      · rename_i hb
        obtain ⟨g1, k1⟩ := ih.code x ax nt s _ _ hx h
        exact ⟨g1, fun ι S w a Q hr hf K => wp_cond_true (rep_bool (arg_rep hcc hr.slots hb)) (k1 ι S w a Q hr hf K)⟩
      · rename_i hb
        obtain ⟨g1, k1⟩ := ih.code y ay nt s _ _ hy h
        exact ⟨g1, fun ι S w a Q hr hf K => wp_cond_false (rep_bool (arg_rep hcc hr.slots hb)) (k1 ι S w a Q hr hf K)⟩
      · simp at h
    · simp at hc
  case block id x =>
    simp only [Option.map_eq_some_iff] at hc
    obtain ⟨ax, hx, rfl⟩ := hc
    simp only [run] at h
    split at h
    · rename_i j s1 h1
      obtain ⟨g1, k1⟩ := ih.code x ax nt s _ _ hx h1
      split at h
      · rename_i hj
        subst hj
        simp only [Option.some.injEq, Prod.mk.injEq] at h
        obtain ⟨rfl, rfl⟩ := h
        refine ⟨g1, fun ι S w a Q hr hf K => wp_block (k1 ι S w a _ hr hf fun a' w' ι' S' hsp hst => ?_)⟩
        simp only [exOf, Exit.inBlock, if_true]
        exact K a' w' ι' S' hsp hst
      · rename_i hj
        simp only [Option.some.injEq, Prod.mk.injEq] at h
        obtain ⟨rfl, rfl⟩ := h
        refine ⟨g1, fun ι S w a Q hr hf K => wp_block (k1 ι S w a _ hr hf fun a' w' ι' S' hsp hst => ?_)⟩
        simp only [exOf, Exit.inBlock, if_neg hj]
        exact K a' w' ι' S' hsp hst
    · rename_i r hne
      obtain ⟨g1, k1⟩ := ih.code x ax nt s _ _ hx h
      refine ⟨g1, fun ι S w a Q hr hf K => wp_block (k1 ι S w a _ hr hf fun a' w' ι' S' hsp hst => ?_)⟩
      have := K a' w' ι' S' hsp hst
      cases ex with
      | normal => exact this
      | exit id => exact absurd h (hne id s')
      | ret => exact this
  case loop x =>
    simp only [Option.map_eq_some_iff] at hc
    obtain ⟨ax, hx, rfl⟩ := hc
    obtain ⟨g1, k1⟩ := claim_loop ih hx h
    exact ⟨g1, fun ι S w a Q hr hf K => wp_loop_rounds (n + 1) (k1 ι S w a Q hr hf K)⟩
  case scope x =>
    simp only [Option.map_eq_some_iff] at hc
    obtain ⟨ax, hx, rfl⟩ := hc
    simp only [run] at h
    obtain ⟨g1, k1⟩ := ih.code x ax nt s _ _ hx h
    refine ⟨g1, fun ι S w a Q hr hf K => wp_scope_straight (k1 ι S w a _ hr hf fun a' w' ι' S' hsp hst => ?_)⟩
    have := K a' w' ι' S' hsp hst
    cases ex <;> exact this

theorem claim_body {n : Nat} (ih : Claim P E n) {fn : Func} {afn : AFn} {args : List AVal} {m m' : Mem} {v : AVal} (hc : compFn P fn = some afn) (h : body E (n + 1) afn args m = some (v, m')) : BodyOk P fn args m v m' := by
  obtain ⟨c, hb, hcode, hres, hnt⟩ := compFn_spec hc
  simp only [body] at h
  split at h
  · rename_i hlen
    have main : ∀ {ex : Ex} {s : St}, (ex = .normal ∨ ex = .ret) → run E n afn.code ⟨argSlots args 0 .nil, m⟩ = some (ex, s) → (results1 s afn.results).map (fun vs => (resultV vs, s.mem)) = some (v, m') → BodyOk P fn args m v m' := by
      intro ex s hex hrun hres'
      simp only [Option.map_eq_some_iff, Prod.mk.injEq] at hres'
      obtain ⟨vs, hvs, rfl, rfl⟩ := hres'
      obtain ⟨g1, k1⟩ := ih.code c _ _ _ _ _ hcode hrun
      refine ⟨g1, fun f ι S w vargs hf hr hm hfr => calls_of_wp hf hb ?_⟩
      have hl := hr.1
      refine k1 ι S w _ _ ⟨fun j x hj => ?_, hm, by simp; omega, rfl⟩ hfr fun a' w' ι' S' hsp hst => ?_
      · rw [argSlots_get] at hj
        split at hj
        · rename_i hjl
          simp only [Nat.sub_zero] at hj
          have hlt : j < vargs.length := by omega
          refine ⟨vargs[j], ?_, hr.2 j x _ hj (by simp [hlt])⟩
          rw [Array.getElem?_append_left (by simpa using hlt)]
          simp [hlt]
        · rw [Tr.get_nil] at hj
          simp at hj
      · obtain ⟨u, hu, hru⟩ := results_ok (fn := fn) hst.slots hst.mem hres hvs
        have : bodyPost P fn (fun e w' => ∃ u ι' S', e = .returned u ∧ Post ι S m w (resultV vs) s.mem u ι' S' w') .normal a' w' :=
          ⟨hst.defers, u, hu, u, ι', S', rfl, ⟨hsp.inj, hsp.news, hsp.prot, hsp.fresh, hsp.step, hsp.own, hst.mem, hru, hsp.grow⟩⟩
        rcases hex with rfl | rfl
        · exact this
        · exact this
    split at h
    · rename_i s hrun
      exact main (.inl rfl) hrun h
    · rename_i s hrun
      exact main (.inr rfl) hrun h
    · simp at h
  · simp at h
end
end Go.Am
