/- The abstract machine, part 25: the shape of what was read. -/
import Derived.Test.YtfaphhcloanhnaaAmRow2
set_option linter.unusedSimpArgs false
set_option linter.unusedVariables false
namespace Go.Am
/-- What a reading of this type looks like. -/
def shD (P : Program) {H : Type} : Nat → TypeId → DataW H → Prop
  | 0, _, _ => False
  | d + 1, t, x => match P.underlying t with
    | some .bool => ∃ b, x = .lit (.bool b)
    | some (.int k) => ∃ n, x = .lit (.int k n) ∧ (Lit.int k n).wf = true
    | some .string => ∃ l, x = .lit (.string l)
    | some (.pointer e) => x = .nil ∨ ∃ y, x = .ptr y ∧ shD P d e y
    | some (.slice e) => x = .nil ∨ ∃ es sp, x = .slice es sp ∧ ∀ y ∈ es, shD P d e y
    | some (.struct fs) => ∃ ys, x = .agg ys ∧ ys.length = fs.size ∧ ∀ (i : Nat) f y, fs[i]? = some f → ys[i]? = some y → shD P d (Field.type f) y
    | some (.array k e) => ∃ ys, x = .agg ys ∧ ys.length = k ∧ ∀ y ∈ ys, shD P d e y
    | _ => False
section
variable {P : Program} {H : Type} {enc : TypeId × Value → H} {w : World}
theorem trod_sh {held : Bool} : ∀ (d n : Nat) (t : TypeId) (cs : List Value) (x : DataW H × List MemPlace), plainT P d t = true → DataW.trod enc P w 0 (fun _ => true) held n t cs = some x → shD P d t x.1
  | 0, n, t, cs, x, hp, h => by simp [plainT] at hp
  | d + 1, n, t, cs, x, hp, h => by
    unfold plainT at hp
    split at hp
    · rename_i ht
      obtain ⟨b, -, rfl⟩ := DataW.trod_bool ht h
      simp only [shD, ht]
      exact ⟨b, rfl⟩
    · rename_i k ht
      obtain ⟨m, -, rfl, hw⟩ := DataW.trod_int ht h
      simp only [shD, ht]
      exact ⟨m, rfl, hw⟩
    · rename_i ht
      obtain ⟨s, -, rfl, -⟩ := DataW.trod_string ht h
      simp only [shD, ht]
      exact ⟨_, rfl⟩
    · rename_i e ht
      simp only [shD, ht]
      rcases DataW.trod_pointer ht h with ⟨-, rfl⟩ | ⟨a, cs', y, m, -, -, rfl, -, hy⟩
      · exact .inl rfl
      · exact .inr ⟨_, rfl, trod_sh d m e _ y hp hy⟩
    · rename_i e ht
      simp only [shD, ht]
      simp only [Bool.and_eq_true] at hp
      rcases DataW.trod_slice ht h with ⟨-, rfl⟩ | ⟨a, len, cap, elems, rest, m, -, -, rfl, -, -, -, hel, hE, -, -⟩
      · exact .inl rfl
      · refine .inr ⟨_, _, rfl, fun y hy => ?_⟩
        obtain ⟨z, hz, rfl⟩ := List.mem_map.1 hy
        obtain ⟨i, hi⟩ := List.getElem?_of_mem hz
        have hlt : i < len := by have := (List.getElem?_eq_some_iff.1 hi).1; omega
        have := hE i hlt
        rw [hi, Option.bind_eq_some_iff] at this
        obtain ⟨u, -, k2⟩ := this
        exact trod_sh d m e _ z hp.1 k2
    · rename_i fs ht
      simp only [shD, ht]
      simp only [Bool.and_eq_true] at hp
      obtain ⟨xs, m, -, rfl, -, hl, hf⟩ := DataW.trod_struct ht h
      refine ⟨_, rfl, by simp [hl], fun i f y h1 h2 => ?_⟩
      rw [List.getElem?_map, Option.map_eq_some_iff] at h2
      obtain ⟨z, hz, rfl⟩ := h2
      have := hf i f h1
      rw [hz] at this
      exact trod_sh d m f.type _ z (List.all_eq_true.1 hp.1.1 f (by
        have : f ∈ fs.toList := by
          rw [← Array.getElem?_toList] at h1
          exact List.mem_of_getElem? h1
        exact this)) this
    · rename_i k e ht
      simp only [shD, ht]
      simp only [Bool.and_eq_true] at hp
      obtain ⟨xs, m, -, rfl, -, hl, hf⟩ := trod_array ht h
      refine ⟨_, rfl, by simp [hl], fun y hy => ?_⟩
      obtain ⟨z, hz, rfl⟩ := List.mem_map.1 hy
      obtain ⟨i, hi⟩ := List.getElem?_of_mem hz
      have hlt : i < k := by have := (List.getElem?_eq_some_iff.1 hi).1; omega
      have := hf i hlt
      rw [hi] at this
      exact trod_sh d m e _ z hp.1 this
    · simp at hp
end
section
variable {P : Program} {H : Type} {d : Nat} {t : TypeId} {x : DataW H}
theorem shD_bool (ht : P.underlying t = some .bool) (h : shD P (d + 1) t x) : ∃ b, x = .lit (.bool b) ∧ encD P (d + 1) t x = [abool b] := by
  rw [shD] at h
  simp only [ht] at h
  obtain ⟨b, rfl⟩ := h
  exact ⟨b, rfl, by simp only [encD, ht]⟩
theorem shD_int {k : IntKind} (ht : P.underlying t = some (.int k)) (h : shD P (d + 1) t x) : ∃ n, x = .lit (.int k n) ∧ (Lit.int k n).wf = true ∧ encD P (d + 1) t x = [.sc (.int k n)] := by
  rw [shD] at h
  simp only [ht] at h
  obtain ⟨n, rfl, hw⟩ := h
  exact ⟨n, rfl, hw, by simp only [encD, ht]⟩
theorem shD_string (ht : P.underlying t = some .string) (h : shD P (d + 1) t x) : ∃ l, x = .lit (.string l) ∧ encD P (d + 1) t x = [.sc (.string ⟨l.toArray⟩)] := by
  rw [shD] at h
  simp only [ht] at h
  obtain ⟨n, rfl⟩ := h
  exact ⟨n, rfl, by simp only [encD, ht]⟩
theorem shD_slice {e : TypeId} (ht : P.underlying t = some (.slice e)) (h : shD P (d + 1) t x) : (x = .nil ∧ encD P (d + 1) t x = [anil]) ∨ ∃ es sp, x = .slice es sp ∧ (∀ y ∈ es, shD P d e y) ∧ encD P (d + 1) t x = [.rs (es.flatMap (encD P d e)) es.length (some (es.length + sp.length))] := by
  rw [shD] at h
  simp only [ht] at h
  rcases h with rfl | ⟨es, sp, rfl, hy⟩
  · exact .inl ⟨rfl, by simp only [encD, ht]⟩
  · exact .inr ⟨es, sp, rfl, hy, by simp only [encD, ht]⟩
theorem shD_struct {fs : Array Field} (ht : P.underlying t = some (.struct fs)) (h : shD P (d + 1) t x) : ∃ ys, x = .agg ys ∧ ys.length = fs.size ∧ (∀ (i : Nat) f y, fs[i]? = some f → ys[i]? = some y → shD P d (Field.type f) y) ∧ encD P (d + 1) t x = (List.zipWith (fun f y => encD P d (Field.type f) y) fs.toList ys).flatten ∧ valD P (d + 1) t x = .agg (encD P (d + 1) t x) := by
  rw [shD] at h
  simp only [ht] at h
  obtain ⟨ys, rfl, h1, h2⟩ := h
  exact ⟨ys, rfl, h1, h2, by simp only [encD, ht], by unfold valD; simp only [ht]⟩
theorem shD_array {k : Nat} {e : TypeId} (ht : P.underlying t = some (.array k e)) (h : shD P (d + 1) t x) : ∃ ys, x = .agg ys ∧ ys.length = k ∧ (∀ y ∈ ys, shD P d e y) ∧ encD P (d + 1) t x = ys.flatMap (encD P d e) := by
  rw [shD] at h
  simp only [ht] at h
  obtain ⟨ys, rfl, h1, h2⟩ := h
  exact ⟨ys, rfl, h1, h2, by simp only [encD, ht]⟩
theorem valD_int {v : AVal} {k : IntKind} (ht : P.underlying t = some (.int k)) (h : encD P d t x = [v]) : valD P d t x = v := by unfold valD; simp only [ht, h, List.headD_cons]
theorem valD_bool {v : AVal} (ht : P.underlying t = some .bool) (h : encD P d t x = [v]) : valD P d t x = v := by unfold valD; simp only [ht, h, List.headD_cons]
theorem valD_slice {v : AVal} {e : TypeId} (ht : P.underlying t = some (.slice e)) (h : encD P d t x = [v]) : valD P d t x = v := by unfold valD; simp only [ht, h, List.headD_cons]
end
end Go.Am
