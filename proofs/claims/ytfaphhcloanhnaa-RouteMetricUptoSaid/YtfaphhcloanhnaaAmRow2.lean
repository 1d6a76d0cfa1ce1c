/- The abstract machine, part 21: a row's step. -/
import Derived.Test.YtfaphhcloanhnaaAmRow
import Derived.WideShapes
import Derived.RowKit3
import Derived.ChangeSame
import Derived.ChangeBears
set_option linter.unusedSimpArgs false
set_option linter.unusedVariables false
namespace Go.Am

/-- A parameter's value. -/
def valD (P : Program) {H : Type} (d : Nat) (t : TypeId) (x : DataW H) : AVal :=
  match P.underlying t with
  | some (.struct _) => .agg (encD P d t x)
  | some (.array _ _) => .agg (encD P d t x)
  | _ => (encD P d t x).headD (.tup [])

section
variable {P : Program} {H : Type} {enc : TypeId × Value → H} {w w' : World} {ι : Inj} {S : Nat → Prop}

theorem val_rep (hS : ∀ b, b < w.heap.size → S b) {held : Bool} {d : Nat} {t : TypeId} {v : Value} {x : DataW H} {ps : List MemPlace} {r : Reach} {base : Nat} (hp : plainT P d t = true) (hv : Value.okWide P w r base t v) (h : DataW.Trod enc P w 0 (fun _ => true) held t v x ps) : Rep ι S w (valD P d t x) v := by
  obtain ⟨n, h⟩ := h
  obtain ⟨h1, _⟩ := trod_rep (ι := ι) hS d n t _ _ hp h
  cases d with
  | zero => simp [plainT] at hp
  | succ d =>
  have one : ∀ {a : List AVal} {u : Value}, RepL ι S w a [u] → Rep ι S w (a.headD (.tup [])) u := by
    intro a u hr
    match a, hr with
    | [c], hr => exact hr.2 0 c u rfl rfl
    | [], hr => exact absurd hr.1 (by simp)
    | _ :: _ :: _, hr => exact absurd hr.1 (by simp)
  unfold plainT at hp
  split at hp
  · rename_i ht
    obtain ⟨b, rfl⟩ := WideShapes.okWide_bool ht hv
    simp only [valD, ht]
    exact one h1
  · rename_i k ht
    obtain ⟨b, rfl⟩ := WideShapes.okWide_int ht hv
    simp only [valD, ht]
    exact one h1
  · rename_i ht
    obtain ⟨b, rfl⟩ := WideShapes.okWide_string ht hv
    simp only [valD, ht]
    exact one h1
  · rename_i e ht
    obtain ⟨b, rfl⟩ := WideShapes.okWide_pointer ht hv
    simp only [valD, ht]
    exact one h1
  · rename_i e ht
    obtain ⟨b, l, c, rfl⟩ := WideShapes.okWide_slice ht hv
    simp only [valD, ht]
    exact one h1
  · rename_i fs ht
    obtain ⟨cs, rfl, _⟩ := WideShapes.okWide_struct ht hv
    simp only [valD, ht]
    exact rep_agg_mk h1
  · rename_i n e ht
    simp only [Value.okWide, ht] at hv
    obtain ⟨cs, rfl, _⟩ := hv
    simp only [valD, ht]
    exact rep_agg_mk h1
  · simp at hp

theorem tight_take : ∀ (fs : List Field) (off : Nat), tightFs P fs off = true → ∀ (j : Nat) f, fs[j]? = some f → f.offset = off + ((fs.take j).map fun f => P.cellsOf f.type).sum
  | [], off, h, j, f, hf => by simp at hf
  | g :: fs, off, h, j, f, hf => by
    simp only [tightFs, Bool.and_eq_true, beq_iff_eq] at h
    cases j with
    | zero => simp at hf; subst hf; simp [h.1]
    | succ j =>
      have := tight_take fs _ h.2 j f (by simpa using hf)
      rw [this]
      simp
      omega

theorem kids_plain : Kids P (fun t => ∃ d, plainT P d t = true) := by
  refine ⟨fun {t e} h ht => ?_, fun {t e} h ht => ?_, fun {t e n} h ht => ?_, fun {t fs} h ht => ?_, fun {t k e} h ht => ?_⟩
  all_goals
    obtain ⟨d, h⟩ := h
    cases d with
    | zero => simp [plainT] at h
    | succ d => ?_
  all_goals simp only [plainT, ht] at h
  · exact ⟨d, h⟩
  · simp only [Bool.and_eq_true] at h
    exact ⟨d, h.1⟩
  · simp only [Bool.and_eq_true, beq_iff_eq] at h
    exact ⟨⟨d, h.1⟩, h.2⟩
  · simp only [Bool.and_eq_true, beq_iff_eq] at h
    refine ⟨fun f hf => ⟨d, List.all_eq_true.1 h.1.1 f hf⟩, h.2, fun j f hf => ?_⟩
    have := tight_take _ _ h.1.2 j f hf
    simpa using this
  · simp at h

/-- What was there has not turned. -/
structure StillW (w w' : World) : Prop where
  kept : w.keptBut w' fun _ => False
  frz : ∀ a : Addr, a.block < w.heap.size → w'.frozen? a = w.frozen? a
  size : w.heap.size ≤ w'.heap.size
theorem still_of (h : WStep (fun _ => False) w w') : StillW w w' := by
  refine ⟨⟨h.os, h.output, fun i hi => ?_⟩, fun a ha => ?_, h.size⟩
  · rw [h.keep i hi (fun f => f)]
    split
    · rename_i h1 h2
      rw [h1] at h2
      cases h2
      exact ⟨rfl, rfl, rfl, fun _ _ => rfl⟩
    · rename_i h1 h2
      rw [h1] at h2
      cases h2
      exact .inr ⟨rfl, rfl⟩
    · rfl
  · unfold World.frozen?
    rw [h.keep _ ha (fun f => f)]
open Go.ChangeShapes Go.WideShapes in
/-- As the kit's 'post_of_same'; of frozen cells those that were there count. -/
theorem post_of_still {f : Func} {s : ChangeSpec} {apart fresh handsOn again : Bool} {W W' : World} {args : Array Value} {v : Value} {ds gs : List (DataW H)} {before pa pv : List MemPlace}
    (hW : DataW.Whole enc P f.params.toList s.vars apart W args.toList ds gs before)
    (hres : ∀ (b : Nat) (sp : Nat → Bool) (hd : Bool), DataW.TrodAll enc P W' b sp hd f.resultTypes.toList (v.resultList f.resultTypes.size) (s.fn H (ds ++ gs)).results [])
    (hargs : ∀ sp : Nat → Bool, (∀ p ∈ before, sp p.block = true) → DataW.TrodAll enc P W' 0 sp true f.params.toList args.toList (s.fn H (ds ++ gs)).args pa)
    (hvars : ∀ sp : Nat → Bool, (∀ p ∈ before, sp p.block = true) → DataW.TrodVars enc P W' sp s.vars (s.fn H (ds ++ gs)).vars pv)
    (hps : before = pa ++ pv) (hst : StillW W W')
    (hok : ∀ (j : Nat) (t : TypeId) (r : Value), f.resultTypes[j]? = some t → (v.resultList f.resultTypes.size)[j]? = some r → Value.okWide P W' .any 0 t r) :
    s.post enc P f apart fresh handsOn again W args v W' := by
  have hlt : ∀ p ∈ before, p.block < W.heap.size := fun p hp => hW.lt p hp
  have hold : ∀ p ∈ before, (fun b => decide (b < W.heap.size)) p.block = true := fun p hp => by simpa using hW.lt p hp
  refine ⟨ds, gs, before, [], pa, pv, hW, hres _ _ _, hargs _ hold, hvars _ hold, World.keptBut_mono (fun p hp => hp.elim) hst.kept, fun _ => ?_⟩
  obtain ⟨_, _, _, _, _, hz, hn⟩ := hW
  refine ⟨hok, _, _, ([] ++ pa) ++ pv, ⟨[] ++ pa, pv, trodAll_append (hargs _ (fun _ _ => rfl)) (hres _ _ _), hvars _ (fun _ _ => rfl), rfl, ?_, ?_⟩, ?_⟩
  · intro b off hp
    have hp' : MemPlace.cell b off ∈ before := by rw [hps]; simpa using hp
    rw [hst.frz ⟨b, off, none⟩ (hlt _ hp')]
    exact hz b off hp'
  · intro ha
    have := hn ha
    rw [hps] at this
    simpa using this
  · intro p hp _
    rw [hps]
    simpa using hp

theorem same_of (h : WStep (fun _ => False) w w') {p : MemPlace} (hp : p.block < w.heap.size) : w.sameAt w' p := by
  cases p with
  | cell b off => exact cell?_of_heap (a := ⟨b, off, none⟩) (h.keep b hp (fun f => f))
  | map b => exact h.keep b hp (fun f => f)

theorem trodAll_again {sp : Nat → Bool} (h : WStep (fun _ => False) w w') : ∀ {ts : List TypeId} {vs : List Value} {ds : List (DataW H)} {ps : List MemPlace}, (∀ t ∈ ts, ∃ d, plainT P d t = true) → DataW.TrodAll enc P w 0 (fun _ => true) true ts vs ds ps → (∀ p ∈ ps, sp p.block = true) →
    DataW.TrodAll enc P w' 0 sp true ts vs ds ps
  | [], [], [], ps, hp, ht, hs => ht
  | t :: ts, v :: vs, d :: ds, ps, hp, ⟨p, q, ⟨n, h1⟩, h2, e⟩, hs => by
    subst e
    refine ⟨p, q, ⟨n, DataW.trod_stays kids_plain (fun {t e} hT hu => ?_) (fun hh => by cases hh) (hp t (by simp)) h1 (fun x hx => same_of h (DataW.trod_lt n _ _ _ h1 x hx)) (fun x hx => hs x (by simp [hx]))⟩,
      trodAll_again h (fun t' ht' => hp t' (by simp [ht'])) h2 (fun x hx => hs x (by simp [hx])), rfl⟩
    obtain ⟨d, hT⟩ := hT
    cases d with
    | zero => simp [plainT] at hT
    | succ d =>
      simp only [plainT, hu, Bool.and_eq_true, decide_eq_true_eq] at hT
      exact hT.2
  | [], [], _ :: _, ps, hp, ht, hs => by simp [DataW.TrodAll] at ht
  | [], _ :: _, _, ps, hp, ht, hs => by simp [DataW.TrodAll] at ht
  | _ :: _, [], _, ps, hp, ht, hs => by simp [DataW.TrodAll] at ht
  | _ :: _, _ :: _, [], ps, hp, ht, hs => by simp [DataW.TrodAll] at ht

theorem vals_rep (hS : ∀ b, b < w.heap.size → S b) {k : Nat} {r : Reach} {base : Nat} : ∀ {ts : List TypeId} {vs : List Value} {ds : List (DataW H)} {ps : List MemPlace}, (∀ t ∈ ts, plainT P k t = true) → (∀ (j : Nat) t v, ts[j]? = some t → vs[j]? = some v → Value.okWide P w r base t v) →
    DataW.TrodAll enc P w 0 (fun _ => true) true ts vs ds ps → RepL ι S w (List.zipWith (valD P k) ts ds) vs
  | [], [], [], ps, hp, hv, ht => ⟨rfl, fun j c v hc => by simp at hc⟩
  | t :: ts, v :: vs, d :: ds, ps, hp, hv, ⟨p, q, h1, h2, e⟩ => by
    have h0 : Rep ι S w (valD P k t d) v := val_rep hS (hp t (by simp)) (hv 0 t v rfl rfl) h1
    have hr : RepL ι S w (List.zipWith (valD P k) ts ds) vs := vals_rep hS (fun t' ht' => hp t' (by simp [ht'])) (fun j t' v' hj hv' => hv (j + 1) t' v' (by simpa using hj) (by simpa using hv')) h2
    refine ⟨by simp [← hr.1], fun j c u hc hu => ?_⟩
    cases j with
    | zero => simp at hc hu; subst hc hu; exact h0
    | succ j => exact hr.2 j c u (by simpa using hc) (by simpa using hu)
  | [], [], _ :: _, ps, hp, hv, ht => by simp [DataW.TrodAll] at ht
  | [], _ :: _, _, ps, hp, hv, ht => by simp [DataW.TrodAll] at ht
  | _ :: _, [], _, ps, hp, hv, ht => by simp [DataW.TrodAll] at ht
  | _ :: _, _ :: _, [], ps, hp, hv, ht => by simp [DataW.TrodAll] at ht

/-- What a law's row asks, of the evaluator's answer. -/
theorem law_calls {E : Env} (hE : EnvOk P E) {f : FuncId} {ts : List TypeId} {args : Array Value} {ds : List (DataW H)} {ps : List MemPlace} {k : Nat} {r : Reach} {base : Nat} (hp : ∀ t ∈ ts, plainT P k t = true)
    (hv : ∀ (j : Nat) t v, ts[j]? = some t → args.toList[j]? = some v → Value.okWide P w r base t v) (ht : DataW.TrodAll enc P w 0 (fun _ => true) true ts args.toList ds ps)
    {n : Nat} {b : Bool} {m' : Mem} (hlaw : callF E n (.func f) (List.zipWith (valD P k) ts ds) ⟨.nil, 0, 0⟩ = some (abool b, m')) :
    Calls P f args w fun e w' => e = .returned (.bool b) ∧ StillW w w' ∧ ∀ sp : Nat → Bool, (∀ p ∈ ps, sp p.block = true) → DataW.TrodAll enc P w' 0 sp true ts args.toList ds ps := by
  have hsim := sim_of hE hlaw (fun _ => none) (fun b => b < w.heap.size) w args.toList (vals_rep (fun _ h => h) hp hv ht) (mrel_none fun _ h => h) (fun _ _ _ => rfl)
  rw [show args.toList.toArray = args by simp] at hsim
  refine hsim.mono fun e w' ⟨u, ι', S', he, hpost⟩ => ?_
  have hstep : WStep (fun _ => False) w w' := hpost.step.mono fun b _ h => own_none h
  have hu := rep_bool hpost.rep
  subst hu
  exact ⟨he, still_of hstep, fun sp hs => trodAll_again hstep (fun t ht => ⟨k, hp t ht⟩) ht hs⟩
end
end Go.Am
