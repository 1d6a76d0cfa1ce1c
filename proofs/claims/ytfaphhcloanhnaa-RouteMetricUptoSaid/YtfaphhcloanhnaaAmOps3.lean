/- The abstract machine, part 6: cuts, aggregates, '==' of aggregates, min and max. -/
import Derived.Test.YtfaphhcloanhnaaAmOps2
set_option linter.unusedSimpArgs false
set_option linter.unusedVariables false
namespace Go.Am
section
variable {P : Program} {ι : Inj} {S : Nat → Prop} {w : World} {s : Tr AVal} {a : Act} {m m' : Mem} {v : AVal} {o : Oper} {ax ay az : Arg}

/-- A bound that is given, or not. -/
def IsOpt : Option Int → Option Value → Prop
  | none, none => True
  | some i, some u => ∃ k, u = .int k i
  | _, _ => False
theorem argOpt_rep {x : Option Operand} {ax : Option Arg} {i : Option Int} (hc : compOpt x = some ax) (hs : SRel ι S w s.get a.tmps) (hv : argOpt s ax = some i) : IsOpt i (x.map a.eval) := by
  cases x with
  | none =>
    simp [compOpt] at hc
    subst hc
    simp [argOpt] at hv
    subst hv
    trivial
  | some x =>
    simp only [compOpt, Option.map_eq_some_iff] at hc
    obtain ⟨ay, h1, rfl⟩ := hc
    simp only [argOpt] at hv
    split at hv
    · rename_i u hu
      simp only [Option.map_eq_some_iff] at hv
      obtain ⟨n, hn, rfl⟩ := hv
      exact rep_int' (arg_rep h1 hs hu) hn
    · simp at hv

theorem upTo_le {len sCap : Nat} {cap : Option Nat} {h : Int} (hu : upTo len cap h = true) (hle : len ≤ sCap) (hk : ∀ k, cap = some k → sCap = k) : h ≤ sCap := by
  unfold upTo at hu
  cases cap with
  | none => simp at hu; omega
  | some k =>
    have := hk k rfl
    simp at hu
    omega

def optOr (o : Option Int) (d : Nat) : Nat := match o with | some q => q.toNat | none => d
theorem optOr_some (q : Int) (d : Nat) : optOr (some q) d = q.toNat := rfl
theorem optOr_none (d : Nat) : optOr none d = d := rfl
theorem bounds3_run {isSlice : Bool} {len sCap : Nat} {cap : Option Nat} {lo hi mx : Option Int} {l h : Nat} {c : Option Nat} {vlo vhi vmx : Option Value} (hb : bounds3 len cap lo hi mx = some (l, h, c)) (hle : len ≤ sCap) (hk : ∀ k, cap = some k → sCap = k)
    (h1 : IsOpt lo vlo) (h2 : IsOpt hi vhi) (h3 : IsOpt mx vmx) :
    ∃ mm, (Instr.sliceBounds isSlice len sCap vlo vhi vmx).run P w = .ok (l, h, mm) w ∧ l ≤ h ∧ h ≤ mm ∧ mm ≤ sCap ∧ (∀ k, c = some k → mm = k) ∧ (mx = none → mm = sCap ∧ c = cap) ∧ (cap = none → h ≤ len) := by
  unfold bounds3 at hb
  split at hb
  · simp at hb
  · rename_i h' hh
    split at hb
    · simp at hb
    · rename_i m' hm'
      have hhc : h' ≤ sCap ∧ (cap = none → h' ≤ len) := by
        cases hi with
        | none => simp at hh; omega
        | some q =>
          simp only at hh
          split at hh
          · rename_i hq
            simp at hh
            have := upTo_le hq.2 hle hk
            refine ⟨by omega, fun hn => ?_⟩
            have h2 := hq.2
            subst hn
            simp [upTo] at h2
            omega
          · simp at hh
      have hmm : ∃ mm, optOr mx sCap = mm ∧ h' ≤ mm ∧ mm ≤ sCap ∧ (∀ k, m' = some k → mm = k) ∧ (mx = none → mm = sCap ∧ m' = cap) ∧ (∀ q, mx = some q → 0 ≤ q ∧ q ≤ sCap ∧ (h' : Int) ≤ q ∧ hi.isSome = true) := by
        cases mx with
        | none =>
          simp at hm'
          subst hm'
          exact ⟨_, rfl, hhc.1, Nat.le_refl _, hk, fun _ => ⟨rfl, rfl⟩, by simp⟩
        | some q =>
          simp only at hm'
          split at hm'
          · rename_i hq
            simp at hm'
            subst hm'
            have := upTo_le hq.2.2 hle hk
            refine ⟨_, rfl, by rw [optOr_some]; omega, by rw [optOr_some]; omega, by simp [optOr_some], by simp, ?_⟩
            intro q' hq'
            simp at hq'
            subst hq'
            exact ⟨by omega, by omega, hq.1, hq.2.1⟩
          · simp at hm'
      obtain ⟨mm, e, h4, h5, h6, h7, h8⟩ := hmm
      have hlo : ∃ l', optOr lo 0 = l' ∧ l' ≤ h' ∧ (l, h, c) = (l', h', m') ∧ (∀ q, lo = some q → 0 ≤ q ∧ q ≤ (h' : Int)) := by
        cases lo with
        | none => simp at hb; exact ⟨0, rfl, by omega, by simp [hb.1, hb.2.1, hb.2.2], by simp⟩
        | some q =>
          simp only at hb
          split at hb
          · rename_i hq
            simp at hb
            refine ⟨_, rfl, by rw [optOr_some]; omega, by simp [optOr_some, hb.1, hb.2.1, hb.2.2], ?_⟩
            intro q' hq'
            simp at hq'
            subst hq'
            exact hq
          · simp at hb
      obtain ⟨l', e2, h9, h10, h11⟩ := hlo
      simp only [Prod.mk.injEq] at h10
      obtain ⟨rfl, rfl, rfl⟩ := h10
      refine ⟨mm, ?_, h9, h4, h5, h6, h7, hhc.2⟩
      have hhi : ∀ q, hi = some q → 0 ≤ q ∧ q.toNat = h := by
        intro q hq
        subst hq
        simp only at hh
        split at hh
        · rename_i hq
          simp at hh
          exact ⟨hq.1, hh⟩
        · simp at hh
      have hhn : hi = none → h = len := by
        intro hn
        subst hn
        simp at hh
        exact hh.symm
      have B : ∀ (k : IntKind) (i : Int) (y : Nat) (code : BoundsCode), 0 ≤ i → i ≤ y → (Instr.sliceBound (.int k i) y code).run P w = .ok i.toNat w := by
        intro k i y code p q
        simp [Instr.sliceBound, asIntOf, p, q]
      cases vmx with
      | some um =>
        cases mx with
        | none => exact h3.elim
        | some q =>
          obtain ⟨k, rfl⟩ := h3
          obtain ⟨q0, q1, q2, q3⟩ := h8 q rfl
          cases vhi with
          | none =>
            cases hi with
            | none => simp at q3
            | some _ => exact h2.elim
          | some uh =>
            cases hi with
            | none => exact h2.elim
            | some p =>
              obtain ⟨k2, rfl⟩ := h2
              obtain ⟨p0, p1⟩ := hhi p rfl
              cases vlo with
              | none =>
                cases lo with
                | some _ => exact h1.elim
                | none => rw [← e2, ← e]; simp [Instr.sliceBounds, optOr_some, optOr_none, B k q sCap _ q0 q1, B k2 p q.toNat _ p0 (by omega), p1]
              | some ul =>
                cases lo with
                | none => exact h1.elim
                | some r =>
                  obtain ⟨k3, rfl⟩ := h1
                  obtain ⟨r0, r1⟩ := h11 r rfl
                  rw [← e2, ← e]; simp [Instr.sliceBounds, optOr_some, optOr_none, B k q sCap _ q0 q1, B k2 p q.toNat _ p0 (by omega), p1, B k3 r h _ r0 r1]
      | none =>
        cases mx with
        | some _ => exact h3.elim
        | none =>
          cases vhi with
          | none =>
            cases hi with
            | some _ => exact h2.elim
            | none =>
              obtain rfl := hhn rfl
              cases vlo with
              | none =>
                cases lo with
                | some _ => exact h1.elim
                | none => rw [← e2, ← e]; simp [Instr.sliceBounds, optOr_some, optOr_none]
              | some ul =>
                cases lo with
                | none => exact h1.elim
                | some r =>
                  obtain ⟨k3, rfl⟩ := h1
                  obtain ⟨r0, r1⟩ := h11 r rfl
                  rw [← e2, ← e]; simp [Instr.sliceBounds, optOr_some, optOr_none, B k3 r h _ r0 r1]
          | some uh =>
            cases hi with
            | none => exact h2.elim
            | some p =>
              obtain ⟨k2, rfl⟩ := h2
              obtain ⟨p0, p1⟩ := hhi p rfl
              cases vlo with
              | none =>
                cases lo with
                | some _ => exact h1.elim
                | none => rw [← e2, ← e]; simp [Instr.sliceBounds, optOr_some, optOr_none, B k2 p sCap _ p0 (by omega), p1]
              | some ul =>
                cases lo with
                | none => exact h1.elim
                | some r =>
                  obtain ⟨k3, rfl⟩ := h1
                  obtain ⟨r0, r1⟩ := h11 r rfl
                  rw [← e2, ← e]; simp [Instr.sliceBounds, optOr_some, optOr_none, B k2 p sCap _ p0 (by omega), p1, B k3 r h _ r0 r1]

theorem ok_slice {t e : TypeId} {x : Operand} {lo hi mx : Option Operand} {al ah am : Option Arg} {z : Nat} (ho : o.op = .slice t x lo hi mx) (ht : P.underlying t = some (.slice e)) (hz : szOf P e = some z) (h0 : 0 < z)
    (hx : compArg x = some ax) (hl : compOpt lo = some al) (hh : compOpt hi = some ah) (hmx : compOpt mx = some am) (hv : opVal s m (.slice z ax al ah am) = some (v, m')) (hs : SRel ι S w s.get a.tmps) (hm : MRel ι S m.heap.get w) : OpOk P ι S w a m o v m' := by
  have run : ∀ ad len cap l h mm, a.eval x = .slice ad len cap → (Instr.sliceBounds true len cap (lo.map a.eval) (hi.map a.eval) (mx.map a.eval)).run P w = .ok (l, h, mm) w →
      (execOp a.eval o).run P w = .ok (.value (.slice (if mm = l then ad else ad.map (·.add (l * z))) (h - l) (mm - l))) w := by
    intro ad len cap l h mm e1 e2
    simp [execOp, ho, e1, Instr.sliceAt, Instr.slice, run_underlying ht, e2, run_sizeOf_some hz]
  simp only [opVal] at hv
  split at hv
  · rename_i id off len e' cap il ih im hx' hl' hh' hm'
    split at hv
    · rename_i he
      subst he
      split at hv
      · rename_i l h c hb
        simp only [Option.some.injEq, Prod.mk.injEq] at hv
        obtain ⟨rfl, rfl⟩ := hv
        obtain ⟨b, o', sc, ad, e1, hid, hle, hk, had, hroom⟩ := rep_sl (arg_rep hx hs hx')
        obtain ⟨mm, hrun, q1, q2, q3, q4, _, _⟩ := bounds3_run (P := P) (w := w) (isSlice := true) hb hle hk (argOpt_rep hl hs hl') (argOpt_rep hh hs hh') (argOpt_rep hmx hs hm')
        have e2 : (if mm = l then some ad else (some ad).map (·.add (l * e'))) = some (if mm = l then ad else ad.add (l * e')) := by split <;> rfl
        refine OpOk.value (u := .slice (some (if mm = l then ad else ad.add (l * e'))) (h - l) (mm - l)) (by rw [run _ _ _ _ _ _ e1 hrun, e2]) hm (.sl hid (by omega) ?_ ?_ ?_)
        · intro k hk'
          simp only [Option.map_eq_some_iff] at hk'
          obtain ⟨k', hk'', rfl⟩ := hk'
          rw [q4 k' hk'']
        · intro hne
          rw [if_neg (by omega), had (by omega), addr_add_mk, Nat.add_assoc]
        · intro hne
          obtain ⟨cs, el, hc, hsz⟩ := hroom (by omega)
          refine ⟨cs, el, hc, ?_⟩
          have : l * e' + (mm - l) * e' = mm * e' := by rw [← Nat.add_mul]; congr 1; omega
          have := Nat.mul_le_mul_right e' q3
          omega
      · simp at hv
    · simp at hv
  · rename_i cs len cap il ih im hx' hl' hh' hm'
    split at hv
    · rename_i l h c hb
      split at hv
      · rename_i r hr
        simp only [Option.some.injEq, Prod.mk.injEq] at hv
        obtain ⟨rfl, rfl⟩ := hv
        obtain ⟨ad, sc, vs, e1, hle, hk, hsp, hcell, hrep, hone⟩ := rep_rs (arg_rep hx hs hx')
        obtain ⟨mm, hrun, q1, q2, q3, q4, q5, q6⟩ := bounds3_run (P := P) (w := w) (isSlice := true) hb hle (by simp) (argOpt_rep hl hs hl') (argOpt_rep hh hs hh') (argOpt_rep hmx hs hm')
        have e2 : (if mm = l then some ad else (some ad).map (·.add (l * z))) = some (if mm = l then ad else ad.add (l * z)) := by split <;> rfl
        obtain ⟨hseg, hreq⟩ := seg_spec hr
        have hrl : r.length = (h - l) * z := by rw [hreq]; simp; omega
        have hmm : 0 < r.length → mm ≠ l := by
          intro hp he
          have : h - l = 0 := by omega
          rw [hrl, this] at hp
          simp at hp
        have hcl : 0 < r.length → 0 < cs.length := by
          intro hp
          rw [hreq] at hp
          simp at hp
          omega
        refine OpOk.value (u := .slice (some (if mm = l then ad else ad.add (l * z))) (h - l) (mm - l)) (by rw [run _ _ _ _ _ _ e1 hrun, e2]) hm
          (.rs (fun j => vs (l * z + j)) (by omega) ?_ (fun hp => ?_) (fun j hj => ?_) (fun j c' hc' => ?_) (fun c' hc' => ?_))
        · intro k hk'
          cases im with
          | none =>
            simp only [Option.map_eq_some_iff] at hk'
            obtain ⟨k', hk'', rfl⟩ := hk'
            rw [(q5 rfl).1, hk k' hk'']
          | some q =>
            simp only [Option.map_eq_some_iff] at hk'
            obtain ⟨k', hk'', rfl⟩ := hk'
            rw [q4 k' hk'']
        · rw [if_neg (hmm hp)]
          obtain ⟨p, q⟩ := hsp (hcl hp)
          exact ⟨addr_add_spot _ _ p, by rw [addr_add_block]; exact q⟩
        · rw [if_neg (hmm (by omega)), addr_add_block, addr_add_off, Nat.add_assoc]
          exact hcell _ (by omega)
        · refine hrep _ c' ?_
          rw [hreq, List.getElem?_take] at hc'
          split at hc'
          · rw [List.getElem?_drop] at hc'
            exact hc'
          · simp at hc'
        · rw [hreq] at hc'
          exact hone c' (List.mem_of_mem_drop (List.mem_of_mem_take hc'))
      · simp at hv
    · simp at hv
  · rename_i il ih im hx' hl' hh' hm'
    split at hv
    · rename_i hb
      simp only [Option.some.injEq, Prod.mk.injEq] at hv
      obtain ⟨rfl, rfl⟩ := hv
      have e1 := rep_nil (arg_rep hx hs hx')
      obtain ⟨mm, hrun, q1, q2, q3, q4, q5, q6⟩ := bounds3_run (P := P) (w := w) (isSlice := true) (sCap := 0) hb (Nat.le_refl _) (by simp) (argOpt_rep hl hs hl') (argOpt_rep hh hs hh') (argOpt_rep hmx hs hm')
      obtain rfl := q4 0 rfl
      exact OpOk.value (u := .slice none 0 0) (by rw [run _ _ _ _ _ _ e1 hrun]; rfl) hm (.sc rfl)
    · simp at hv
  · simp at hv

theorem ok_sliceStr {t : TypeId} {x : Operand} {lo hi : Option Operand} {al ah : Option Arg} (ho : o.op = .slice t x lo hi none) (ht : P.underlying t = some .string)
    (hx : compArg x = some ax) (hl : compOpt lo = some al) (hh : compOpt hi = some ah) (hv : opVal s m (.sliceStr ax al ah) = some (v, m')) (hs : SRel ι S w s.get a.tmps) (hm : MRel ι S m.heap.get w) : OpOk P ι S w a m o v m' := by
  simp only [opVal] at hv
  split at hv
  · rename_i b il ih hx' hl' hh'
    split at hv
    · rename_i l h c hb
      simp only [Option.some.injEq, Prod.mk.injEq] at hv
      obtain ⟨rfl, rfl⟩ := hv
      have e1 := rep_string (arg_rep hx hs hx')
      obtain ⟨mm, hrun, _⟩ := bounds3_run (P := P) (w := w) (isSlice := false) (sCap := b.size) (vmx := none) hb (Nat.le_refl _) (by simp) (argOpt_rep hl hs hl') (argOpt_rep hh hs hh') trivial
      exact OpOk.value (u := .string (b.extract l h)) (by simp [execOp, ho, e1, Instr.sliceAt, Instr.slice, run_underlying ht, hrun]) hm (.sc rfl)
    · simp at hv
  · simp at hv

end
end Go.Am
