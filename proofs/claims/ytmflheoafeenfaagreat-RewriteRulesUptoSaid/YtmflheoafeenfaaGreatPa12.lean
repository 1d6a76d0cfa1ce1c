/- Parts of the proof, joined by program: RwFR, RwP7, RwP8, RwQ1, RwQ2, RwM1, AmComp, AmCodeOk. -/
import Derived.Test.YtmflheoafeenfaaGreatPa9
import Derived.Test.YtmflheoafeenfaaGreatPa11
import Derived.Test.YtmflheoafeenfaaGreatPa1
import Derived.Test.YtmflheoafeenfaaGreatPa4
import Derived.Test.YtmflheoafeenfaaGreatChecked
import Derived.KernelRfl
set_option linter.unusedSimpArgs false
set_option linter.unusedVariables false
namespace Go.Proofs.YtmflheoafeenfaaGreat
open Go.Am
set_option maxRecDepth 4000
set_option maxHeartbeats 8000000
variable {E : Env} {L : Hp}
/-! A copied circuit, from the front -/
inductive OpsS (cs : List AVal) (os : List OpD) : Nat → Hp → Prop where
  | done : OpsS cs os os.length []
  | more {k : Nat} {u : AVal} {B H : Hp} (hk : k < os.length) (hs : seg cs (0 + k * 6) 6 = some (opCells u (os.getD k default))) (hq : OwnI u (os.getD k default).qs B) (h : OpsS cs os (k + 1) H) : OpsS cs os k (B ++ H)
theorem OpsS.ext {cs : List AVal} {os : List OpD} {k : Nat} {H B : Hp} {u : AVal} {o : OpD} (hl : cs.length = os.length * 6) (h : OpsS cs os k H) (hq : OwnI u o.qs B) : OpsS (cs ++ opCells u o) (os ++ [o]) k (H ++ B) := by
  induction h with
  | done =>
    have e : (os ++ [o]).getD os.length default = o := by simp
    have := OpsS.more (cs := cs ++ opCells u o) (os := os ++ [o]) (k := os.length) (u := u) (B := B) (H := []) (by simp) (by
      rw [e, seg, if_pos (by simp [hl, opCells]), Nat.zero_add, ← hl, List.drop_left]
      simp [opCells]) (by rw [e]; exact hq) (by have := OpsS.done (cs := cs ++ opCells u o) (os := os ++ [o]); simpa using this)
    simpa using this
  | @more k u' B' H' hk hs hq' h ih =>
    have e : (os ++ [o]).getD k default = os.getD k default := by simp [List.getElem?_append_left hk]
    rw [List.append_assoc]
    refine .more (u := u') (by simp; omega) ?_ (by rw [e]; exact hq') ih
    rw [e]
    unfold seg at hs ⊢
    split at hs
    · rename_i hle
      rw [if_pos (by simp; omega), List.drop_append_of_le_length (by omega), List.take_append_of_le_length (by simp; omega)]
      exact hs
    · cases hs
theorem OpsB.front {cs : List AVal} {os : List OpD} {H : Hp} (h : OpsB cs os H) : OpsS cs os 0 H := by
  induction h with
  | nil => exact .done
  | snoc h hq hb ih => exact ih.ext h.one hq
theorem seg_get {cs r : List AVal} {off n i : Nat} (h : seg cs off n = some r) (hi : i < n) : cs[off + i]? = r[i]? := by
  unfold seg at h
  split at h
  · simp only [Option.some.injEq] at h
    subst h
    rw [List.getElem?_take, if_pos hi, List.getElem?_drop]
  · cases h
theorem OpsB.lens {cs : List AVal} {os : List OpD} {H : Hp} (h : OpsB cs os H) : ∀ k, k < os.length → (os.getD k default).qs.length < 2 ^ 62 := by
  induction h with
  | nil => intro k hk; simp at hk
  | @snoc cs os H B u o h hq hb ih =>
    intro k hk
    rcases Nat.lt_or_ge k os.length with h1 | h1
    · have := ih k h1
      simpa [List.getElem?_append_left h1] using this
    · have : k = os.length := by simp at hk; omega
      subst this
      simpa using hb
theorem OpsS.set {cs : List AVal} {os : List OpD} {k i : Nat} {H : Hp} {v : AVal} (h : OpsS cs os k H) (hi : i < k * 6) : OpsS (cs.set i v) os k H := by
  induction h with
  | done => exact .done
  | @more k u B H hk hs hq h ih =>
    refine .more (u := u) hk ?_ hq (ih (by omega))
    unfold seg at hs ⊢
    rw [List.length_set]
    split at hs
    · rename_i hle
      rw [if_pos hle]
      rw [List.drop_set_of_lt (by omega)]
      exact hs
    · cases hs
theorem CircO.views {v : AVal} {c : CircD} {B M : Hp} (h : CircO v c B) (hM : ∀ id c, In id c B → In id c M) : ∃ u, CircA u c ∧ ∀ vs us, ViewsO M vs us → ViewsO M (v :: vs) (u :: us) := by
  have h0 := h
  obtain ⟨s, cs, Bs, H, rfl, hb, ho, hlt, rfl⟩ := h
  rcases bufInv hb with ⟨rfl, -, e, -⟩ | ⟨id, rfl, -⟩
  · have e3 : c.ops = [] := List.eq_nil_of_length_eq_zero e
    exact ⟨_, ⟨anil, rfl, [], .inl ⟨rfl, e, rfl⟩, by rw [e3]; exact .nil, by omega⟩, fun vs us hv => vs_bare rfl hv⟩
  · obtain ⟨u, h1, h2⟩ := h0.view 60 hM
    exact ⟨u, h2, fun vs us hv => vs_view rfl h1 hv⟩
end Go.Proofs.YtmflheoafeenfaaGreat
namespace Go.Proofs.YtmflheoafeenfaaGreat
open Go.Am
set_option maxRecDepth 4000
set_option maxHeartbeats 16000000
variable {E : Env} {L : Hp}
/-- The loop that writes one operation's qubits over. -/
theorem own_l0 {i4 ic iq m k : Nat} {n bt : Int} {cap : Option Nat} {cs : List AVal} {ql : List Int} (hkm : k < m) (hc2 : cs[0 + k * 6 + 2]? = some (.sl iq 0 ql.length 1 cap)) (hlt : ql.length < 2 ^ 62) :
    ∀ (d j : Nat) (t : Tr AVal) (l : List Int), d + j = ql.length → l.length = ql.length → t.get 4 = some (.ptr i4 0) → t.get 7 = some (aint k) → t.get 8 = some (aint j) →
    WpO E (.loop c_phasorlaw18_own_l0) t ((i4, [aint n, aint bt, .sl ic 0 m 6 none]) :: (ic, cs) :: (iq, l.map aint) :: L) (fun ex t' L' => ex = .exit 2 ∧ Keep [3, 4, 5, 7] t t' ∧ Am.Sub ((i4, [aint n, aint bt, .sl ic 0 m 6 none]) :: (ic, cs) :: L) L') := by
  have hl6 : 0 + k * 6 + 2 < cs.length := (List.getElem?_eq_some_iff.1 hc2).1
  intro d
  induction d with
  | zero =>
    intro j t l hj hl h4 h7 h8
    obtain rfl : j = ql.length := by omega
    refine wo_loop ?_
    repeat (first | intro id | refine goq ?_)
    exact ⟨rfl, by exact keepq, by exact subq⟩
  | succ d ih =>
    intro j t l hj hl h4 h7 h8
    refine wo_loop ?_
    repeat (first | intro id | refine goq ?_)
    refine WpO.mono (ih (j + 1) _ (l.set j (-9)) (by omega) (by simp [hl]) ?_ ?_ ?_) ?_
    · exact slotq
    · exact slotq
    · exact slotq
    · rintro ex t' L' ⟨e1, e2, e3⟩
      exact ⟨e1, Keep.trans (by exact keepq) e2, e3⟩
end Go.Proofs.YtmflheoafeenfaaGreat
namespace Go.Proofs.YtmflheoafeenfaaGreat
open Go.Am
set_option maxRecDepth 4000
set_option maxHeartbeats 16000000
variable {E : Env} {L : Hp}
theorem OrdO.shape {c : CircD} {r : AVal} {B : Hp} (h : OrdO c r B) : ∃ (q b e : Int) (s : AVal) (d : CircD), r = .tup [.agg [aint q, aint b, s], aint e] ∧ s.one = true ∧ CircO (.agg [aint q, aint b, s]) d B ∧ ((¬ CircOk c ∧ e = 80 ∧ d = ⟨0, 0, []⟩) ∨ (CircOk c ∧ e = 0 ∧ d = ⟨c.qubits, c.bits, ordL c.ops⟩)) := by
  rcases h with ⟨h, rfl, rfl⟩ | ⟨h, v, rfl, hv⟩
  · exact ⟨0, 0, 80, anil, ⟨0, 0, []⟩, rfl, rfl, ⟨anil, [], [], [], rfl, .nil, .nil, by simp, rfl⟩, .inl ⟨h, rfl, rfl⟩⟩
  · have hv0 := hv
    obtain ⟨s, cs, Bs, H, rfl, hb, -, -, -⟩ := hv
    exact ⟨c.qubits, c.bits, 0, s, _, rfl, hb.isOne, hv0, .inr ⟨h, rfl, rfl⟩⟩
theorem ReoR.same {c d : CircD} {u w : AVal} (h : ReoR c d u) (k : ReoR c d w) : w = u ∧ ∃ x e, u = .tup [abool x, aint e] := by
  rcases h with ⟨h1, rfl⟩ | ⟨h1, h2, x, rfl, h3⟩
  · rcases k with ⟨k1, rfl⟩ | ⟨k1, k2, y, rfl, k3⟩
    · exact ⟨rfl, _, _, rfl⟩
    · exact (h1 ⟨k1, k2⟩).elim
  · rcases k with ⟨k1, rfl⟩ | ⟨k1, k2, y, rfl, k3⟩
    · exact (k1 ⟨h1, h2⟩).elim
    · have : x = y := by
        have := h3.trans k3.symm
        cases x <;> cases y <;> simp_all
      subst this
      exact ⟨rfl, _, _, rfl⟩
theorem num18_ok (hF : E.fns = fnsT) (hm : E.mode f_phasorlaw18_num = .iso false) (n : Int) : CallO E f_phasorlaw18_num [aint n] L fun v L' => v = aint n ∧ L' = L := by
  refine callO_iso0 hm (fns_of hF n_phasorlaw18_num) (vs_bare rfl vs_nil) ?_
  refine bodyO_of (Nat.le_of_ble_eq_true rfl) ?_; generalize ht : argSlots _ 0 .nil = t; have h0 : t.get 0 = some _ := (by rw [← ht]; rfl); clear ht
  repeat (first | intro id | refine goq ?_)
  ((first | apply retO_r | apply retO_n); (focus (exact resq)))
  exact ⟨rfl, rfl⟩
end Go.Proofs.YtmflheoafeenfaaGreat
namespace Go.Proofs.YtmflheoafeenfaaGreat
open Go.Am
set_option maxRecDepth 4000
set_option maxHeartbeats 16000000
variable {E : Env} {L : Hp}
end Go.Proofs.YtmflheoafeenfaaGreat
namespace Go.Proofs.YtmflheoafeenfaaGreat
open Go.Am
set_option maxRecDepth 4000
set_option maxHeartbeats 16000000
variable {E : Env} {L : Hp}
end Go.Proofs.YtmflheoafeenfaaGreat
namespace Go.Proofs.YtmflheoafeenfaaGreat
open Go.Am
set_option maxRecDepth 4000
set_option maxHeartbeats 16000000
variable {E : Env} {L : Hp}
/-! Operations in boxes, in a row -/
structure Trip where
  u : AVal
  o : OpD
  B : Hp
def tpC (T : List Trip) : List AVal := T.flatMap fun p => opCells p.u p.o
def tpO (T : List Trip) : List OpD := T.map Trip.o
def tpH (T : List Trip) : Hp := T.flatMap Trip.B
def TrOk (T : List Trip) : Prop := ∀ p ∈ T, OwnI p.u p.o.qs p.B ∧ p.o.qs.length < 2 ^ 62
theorem OpsB.trip {cs : List AVal} {os : List OpD} {H : Hp} (h : OpsB cs os H) : ∃ T, TrOk T ∧ cs = tpC T ∧ os = tpO T ∧ H = tpH T := by
  induction h with
  | nil => exact ⟨[], fun p hp => (List.not_mem_nil hp).elim, rfl, rfl, rfl⟩
  | @snoc cs os H B u o h hq hb ih =>
    obtain ⟨T, h1, rfl, rfl, rfl⟩ := ih
    refine ⟨T ++ [⟨u, o, B⟩], fun p hp => ?_, by simp [tpC], by simp [tpO], by simp [tpH]⟩
    rcases List.mem_append.1 hp with hp | hp
    · exact h1 p hp
    · have := List.mem_singleton.1 hp
      subst this
      exact ⟨hq, hb⟩
theorem TrOk.app {T : List Trip} : ∀ {c0 : List AVal} {o0 : List OpD} {H0 : Hp}, OpsB c0 o0 H0 → TrOk T → OpsB (c0 ++ tpC T) (o0 ++ tpO T) (H0 ++ tpH T) := by
  induction T with
  | nil => intro c0 o0 H0 h0 _; simpa [tpC, tpO, tpH] using h0
  | cons p T ih =>
    intro c0 o0 H0 h0 hT
    have hp := hT p (by simp)
    have h1 := ih (h0.snoc hp.1 hp.2) fun q hq => hT q (by simp [hq])
    simpa [tpC, tpO, tpH] using h1
theorem TrOk.ops {T : List Trip} (h : TrOk T) : OpsB (tpC T) (tpO T) (tpH T) := by simpa using TrOk.app .nil h
theorem tpC_len (T : List Trip) : (tpC T).length = T.length * 6 := by
  induction T with
  | nil => rfl
  | cons p T ih =>
    have e : tpC (p :: T) = opCells p.u p.o ++ tpC T := by simp [tpC]
    have e2 : (opCells p.u p.o).length = 6 := rfl
    rw [e, List.length_append, e2, ih, List.length_cons]
    omega
theorem tp_seg {xs ys : List Trip} (a : Trip) {k : Nat} (hk : xs.length = k) : seg (tpC (xs ++ a :: ys)) (k * 6) 6 = some (opCells a.u a.o) := by
  have e : (tpC xs).length = k * 6 := by rw [tpC_len, hk]
  have e2 : tpC (xs ++ a :: ys) = tpC xs ++ (opCells a.u a.o ++ tpC ys) := by simp [tpC]
  rw [e2, seg, if_pos (by simp [e, opCells]), ← e, List.drop_left]
  simp [opCells]
theorem TrOk.swap {xs ys : List Trip} {a b : Trip} (h : TrOk (xs ++ a :: b :: ys)) : TrOk (xs ++ b :: a :: ys) := fun p hp => h p (by
  simp only [List.mem_append, List.mem_cons] at hp ⊢
  rcases hp with hp | hp | hp | hp
  · exact .inl hp
  · exact .inr (.inr (.inl hp))
  · exact .inr (.inl hp)
  · exact .inr (.inr (.inr hp)))
theorem trip_box {T : List Trip} {p : Trip} (hp : p ∈ T) : ∀ id c, In id c p.B → In id c (tpH T) := by
  induction T with
  | nil => cases hp
  | cons q T ih =>
    intro id c hi
    have e : tpH (q :: T) = q.B ++ tpH T := by simp [tpH]
    rw [e]
    rcases List.mem_cons.1 hp with rfl | hp
    · exact hi.appl
    · exact (ih hp id c hi).app
theorem Sub.perm {A B L : Hp} (h : A.Perm B) : Am.Sub (A ++ L) (B ++ L) := ⟨[], by rw [List.append_nil]; exact (h.symm).append_right L⟩
end Go.Proofs.YtmflheoafeenfaaGreat
namespace Go.Am
section
variable (P : Program)

def szOf (t : TypeId) : Option Nat := (P.info? t).map (·.size)
def bytesOf_ (t : TypeId) : Option Nat := (P.info? t).map (·.bytes)
def aggOf (t : TypeId) : Option Bool :=
  match P.underlying t with
  | some (.struct _) => some true
  | some (.array _ _) => some true
  | some _ => some false
  | none => none
def zeroOf (t : TypeId) : Option (List AVal) :=
  match (P.info? t).bind (·.zero) with
  | some z => scAll z.cells.toList
  | none => none

def compArg : Operand → Option Arg
  | .tmp t => some (.t t)
  | .const v => (ofConst v).map .k
  | .func f => some (.k (.fn (.func f) [] []))
  | .global _ => none
def compArgs : List Operand → Option (List Arg)
  | [] => some []
  | x :: r => match compArg x, compArgs r with
    | some a, some asq => some (a :: asq)
    | _, _ => none
def compOpt : Option Operand → Option (Option Arg)
  | none => some none
  | some x => (compArg x).map some
/-- Parts, by where they go. -/
def compParts (place : Nat → Option (Nat × Nat)) : List (Nat × Operand) → Option (List (Nat × Nat × Arg))
  | [] => some []
  | (i, x) :: r => match place i, compArg x, compParts place r with
    | some (o, n), some a, some asq => some ((o, n, a) :: asq)
    | _, _, _ => none
def fieldPlaces : List Field → Option (List (Nat × Nat))
  | [] => some []
  | f :: r => match szOf P f.type, fieldPlaces r with
    | some n, some l => some ((f.offset, n) :: l)
    | _, _ => none

def leavesFs (lv : TypeId → Option (List LK)) : List Field → Nat → Option (List LK)
  | [], _ => some []
  | f :: r, off =>
    if f.name = "_" then none
    else match lv f.type, szOf P f.type with
      | some l, some n => if f.offset = off ∧ n = l.length then match leavesFs lv r (off + l.length) with
          | some k => some (l ++ k)
          | none => none
        else none
      | _, _ => none
/-- The leaves of a type, where '==' asks them one by one. -/
def leavesOf : Nat → TypeId → Option (List LK)
  | 0, _ => none
  | d + 1, t => match P.underlying t with
    | some .bool => some [.bool]
    | some (.int _) => some [.int]
    | some .string => some [.string]
    | some (.struct fs) => if P.stoodInHeld t then none else leavesFs P (leavesOf d) fs.toList 0
    | some (.array n e) => match leavesOf d e, szOf P e, aggOf P e with
      | some r, some z, some g => if z = r.length ∧ (g = false → z = 1) then some (List.flatten (List.replicate n r)) else none
      | _, _, _ => none
    | _ => none

def compOp (o : Oper) : Option AOp :=
  match o.op with
  | .move x => (compArg x).map .mov
  | .assign x => (compArg x).map .mov
  | .pick c a b => match compArg c, compArg a, compArg b with
    | some c, some a, some b => some (.pick c a b)
    | _, _, _ => none
  | .alloc t => (zeroOf P t).map .alloc
  | .box _ x => (compArg x).map .box
  | .build t parts => match zeroOf P t, P.underlying t with
    | some z, some (.struct fs) => match fieldPlaces P fs.toList with
      | some pl => (compParts (fun i => pl[i]?) parts.toList).map (.build z)
      | none => none
    | some z, some (.array _ e) => match szOf P e with
      | some n => (compParts (fun i => some (i * n, n)) parts.toList).map (.build z)
      | none => none
    | _, _ => none
  | .buildSlice t len parts => match P.underlying t with
    | some (.slice e) => match szOf P e, zeroOf P e with
      | some n, some z => if 0 < n ∧ z.length = n ∧ len * n ≤ 16777216 then (compParts (fun i => some (i * n, n)) parts.toList).map (.buildSlice n len (List.flatten (List.replicate len z))) else none
      | _, _ => none
    | _ => none
  | .load t x => match aggOf P t, szOf P t, compArg x with
    | some a, some n, some x => some (.load a (if a then n else 1) x)
    | _, _, _ => none
  | .store t a v => match szOf P t, compArg a, compArg v with
    | some n, some a, some v => some (.store n a v)
    | _, _, _ => none
  | .nilCheck x => (compArg x).map .nilCheck
  | .binOp op t x y _ => match compArg x, compArg y with
    | some x, some y => match P.underlying t with
      | some (.int _) => some (.bin op x y)
      | some (.float _) => some (.bin op x y)
      | some (.complex _) => some (.bin op x y)
      | some .string => some (.bin op x y)
      | some .bool => match op with
        | .eql => some (.eqBool false x y)
        | .neq => some (.eqBool true x y)
        | _ => none
      | some (.pointer _) => match op with
        | .eql => some (.eqNil .ptr false x y)
        | .neq => some (.eqNil .ptr true x y)
        | _ => none
      | some (.slice _) => match op with
        | .eql => some (.eqNil .slice false x y)
        | .neq => some (.eqNil .slice true x y)
        | _ => none
      | some (.func _ _ _) => match op with
        | .eql => some (.eqNil .func false x y)
        | .neq => some (.eqNil .func true x y)
        | _ => none
      | some (.map _ _) => match op with
        | .eql => some (.eqNil .map false x y)
        | .neq => some (.eqNil .map true x y)
        | _ => none
      | some (.struct _) => if P.eqGuardType P.depth t then none else match op, leavesOf P 20 t with
        | .eql, some l => some (.eqAgg false l x y)
        | .neq, some l => some (.eqAgg true l x y)
        | _, _ => none
      | some (.array _ _) => if P.eqGuardType P.depth t then none else match op, leavesOf P 20 t with
        | .eql, some l => some (.eqAgg false l x y)
        | .neq, some l => some (.eqAgg true l x y)
        | _, _ => none
      | _ => none
    | _, _ => none
  | .unOp op _ x => (compArg x).map (.un op)
  | .convert s d x => match compArg x, P.underlying s, P.underlying d with
    | some x, some (.int _), some (.int k) => some (.conv (.int k) x)
    | some x, some .string, some .string => some (.conv .same x)
    | some x, some (.int _), some (.float k) => some (.conv (.float k) x)
    | some x, some (.float _), some (.float k) => some (.conv (.float k) x)
    | _, _, _ => none
  | .makeFunc f a b => match compArgs a.toList, compArgs b.toList with
    | some a, some b => some (.makeFunc f a b)
    | _, _ => none
  | .makeSlice t l c => match P.underlying t with
    | some (.slice e) => match szOf P e, bytesOf_ P e, zeroOf P e, compArg l, compArg c with
      | some n, some b, some z, some l, some c => if 0 < n ∧ z.length = n then some (.makeSlice n b z l c) else none
      | _, _, _, _, _ => none
    | _ => none
  | .slice t x lo hi mx => match P.underlying t, compArg x, compOpt lo, compOpt hi, compOpt mx with
    | some (.slice e), some x, some lo, some hi, some mx => match szOf P e with
      | some n => if 0 < n then (match lo, hi, mx with
        | some lo, some hi, none => some (.sliceB n x lo hi)
        | _, _, _ => some (.slice n x lo hi mx)) else none
      | none => none
    | some .string, some x, some lo, some hi, some none => some (.sliceStr x lo hi)
    | _, _, _, _, _ => none
  | .fieldAddr t x i => match P.underlying t, compArg x with
    | some (.struct fs), some x => match fs[i]? with
      | some f => match szOf P f.type with
        | some n => if 0 < n then some (.fieldAddr f.offset x) else none
        | none => none
      | none => none
    | _, _ => none
  | .field t x i => match P.underlying t, compArg x with
    | some (.struct fs), some x => match fs[i]? with
      | some f => match aggOf P f.type, szOf P f.type with
        | some a, some n => some (.field a f.offset (if a then n else 1) x)
        | _, _ => none
      | none => none
    | _, _ => none
  | .indexAddr t x i => match compArg x, compArg i with
    | some x, some i => match P.underlying t with
      | some (.array n e) => match szOf P e with
        | some z => if 0 < z then some (.indexAddr (some n) z x i) else none
        | none => none
      | some (.slice e) => match szOf P e with
        | some z => if 0 < z then some (.indexAddr none z x i) else none
        | none => none
      | _ => none
    | _, _ => none
  | .index t x i => match compArg x, compArg i with
    | some x, some i => match P.underlying t with
      | some (.array n e) => match aggOf P e, szOf P e with
        | some a, some z => if a = false → z = 1 then some (.index a n z x i) else none
        | _, _ => none
      | some .string => some (.indexStr x i)
      | _ => none
    | _, _ => none
  | .extract x i => (compArg x).map fun x => .extract x i
  | .call c => match c.callee with
    | .value f => match compArg f, compArgs c.args.toList with
      | some f, some asq => some (.call f asq)
      | _, _ => none
    | .invoke _ _ => none
    | .builtin b => match b, compArgs c.args.toList, c.argTypes.toList with
      | .len, some [x], [t] => match P.underlying t with
        | some .string => some (.lenStr x)
        | some (.slice _) => some (.len x)
        | some (.array n _) => some (.lenC n)
        | _ => none
      | .cap, some [x], [t] => match P.underlying t with
        | some (.slice _) => some (.cap x)
        | _ => none
      | .append, some [a, x], [t, u] => match P.underlying t, P.underlying u with
        | some (.slice e), some (.slice _) => match szOf P e, bytesOf_ P e, zeroOf P e with
          | some n, some b, some z => if 0 < n ∧ 0 < b ∧ z.length = n then some (.append n b a x) else none
          | _, _, _ => none
        | some (.slice e), some (.int _) => match szOf P e, bytesOf_ P e, zeroOf P e with
          | some n, some b, some z => if 0 < n ∧ 0 < b ∧ z.length = n then some (.appendZeros n b z a x) else none
          | _, _, _ => none
        | _, _ => none
      | .copy, some [a, x], t :: _ => match P.underlying t with
        | some (.slice e) => match szOf P e with
          | some n => if 0 < n then some (.copy n a x) else none
          | none => none
        | _ => none
      | .clear, some [x], [t] => match P.underlying t with
        | some (.slice e) => match szOf P e, zeroOf P e with
          | some n, some z => if 0 < n ∧ z.length = n then some (.clear n z x) else none
          | _, _ => none
        | _ => none
      | .real, some [x], _ => some (.real false x)
      | .imag, some [x], _ => some (.real true x)
      | .complex, some [x, y], _ => some (.cplx x y)
      | .max, some xs, _ => some (.minmax true xs)
      | .min, some xs, _ => some (.minmax false xs)
      | _, _, _ => none
  | .makeInterface _ _ => some (.lenStr (.k (.sc (.bool false))))
  | .panic _ => some (.lenStr (.k (.sc (.bool false))))
  | _ => none

def dstOk (n : Nat) : Option Nat → Bool
  | some d => decide (d < n)
  | none => true
def compAO (ntmps : Nat) (ops : Array Oper) (before : Array Nat) (i : Nat) (o : Oper) : Option AO :=
  match compOp P o with
  | none => none
  | some op =>
    if dstOk ntmps o.dst = true then
      some { dst := o.dst, op := op, guard := o.guard.map fun g => ((ops[g.1]?).bind (·.dst), g.2), after := before.getD i 0 }
    else none
def compOs (ntmps : Nat) (ops : Array Oper) (before : Array Nat) : Nat → List Oper → Option (List AO)
  | _, [] => some []
  | i, o :: r => match compAO P ntmps ops before i o, compOs ntmps ops before (i + 1) r with
    | some a, some asq => some (a :: asq)
    | _, _ => none

/-- Each bit of what is told to come ahead is an edge's, or comes through one. -/
def okAfter (ops : Array Oper) (bf : Array Nat) : Bool :=
  ops.toList.zipIdx.all fun x => (List.range ops.size).all fun k => !(bf.getD x.2 0).testBit k || x.1.after.any fun e => Region.binds .any e && (e.on == k || (bf.getD e.on 0).testBit k)
def okEdges (ops : Array Oper) : Bool := ops.toList.zipIdx.all fun x => x.1.after.all fun e => !Region.binds .any e || decide (e.on < x.2)

def comp (ntmps : Nat) : Code → Option AC
  | .skip => some .skip
  | .region _ ops d =>
    match d with
    | true => if okEdges ops ∧ okAfter ops (Region.before ops) then (compOs P ntmps ops (Region.before ops) 0 ops.toList).map fun l => .reg l true else none
    | false => (compOs P ntmps ops #[] 0 ops.toList).map fun l => .reg l false
  | .seq a b => match comp ntmps a, comp ntmps b with
    | some a, some b => some (.seq a b)
    | _, _ => none
  | .cond c a b => match compArg c, comp ntmps a, comp ntmps b with
    | some c, some a, some b => some (.cond c a b)
    | _, _, _ => none
  | .block id c => (comp ntmps c).map (.blk id)
  | .loop c => (comp ntmps c).map .loop
  | .exit id => some (.exit id)
  | .scope c => (comp ntmps c).map .scope
  | .label _ => some .skip
  | .ret => some .ret
  | _ => none

def compRes : List ResultVar → Option (List AR)
  | [] => some []
  | .tmp t :: r => (compRes r).map (.tmp t :: ·)
  | .cell a t :: r => match aggOf P t, szOf P t, compRes r with
    | some g, some n, some l => some (.cell g (if g then n else 1) a :: l)
    | _, _, _ => none

def compFn (f : Func) : Option AFn :=
  match f.body with
  | none => none
  | some c => match comp P f.ntmps c, compRes P f.results.toList with
    | some c, some r => some { code := c, ntmps := f.ntmps, results := r }
    | _, _ => none
end
end Go.Am
namespace Go.Proofs.YtmflheoafeenfaaGreat
open Go.Am
set_option maxRecDepth 100000
theorem k_phasorlaw18_RewriteRules : compFn Tryz.prog Tryz.f3 = some c_phasorlaw18_RewriteRules := by kernel_rfl
theorem k_phasorref08_Copy : compFn Tryz.prog Tryz.f8 = some c_phasorref08_Copy := by kernel_rfl
theorem k_rewrite_Cancel : compFn Tryz.prog Tryz.f9 = some c_rewrite_Cancel := by kernel_rfl
theorem k_phasorref18_Rules : compFn Tryz.prog Tryz.f10 = some c_phasorref18_Rules := by kernel_rfl
theorem k_rewrite_Merge : compFn Tryz.prog Tryz.f11 = some c_rewrite_Merge := by kernel_rfl
theorem k_rewrite_Simplify : compFn Tryz.prog Tryz.f12 = some c_rewrite_Simplify := by kernel_rfl
theorem k_phasorlaw18_num : compFn Tryz.prog Tryz.f13 = some c_phasorlaw18_num := by kernel_rfl
theorem k_phasorref08_Same : compFn Tryz.prog Tryz.f14 = some c_phasorref08_Same := by kernel_rfl
theorem k_phasorlaw18_own : compFn Tryz.prog Tryz.f15 = some c_phasorlaw18_own := by kernel_rfl
theorem k_phasorlaw18_alive : compFn Tryz.prog Tryz.f16 = some c_phasorlaw18_alive := by kernel_rfl
theorem k_rewrite_Order : compFn Tryz.prog Tryz.f17 = some c_rewrite_Order := by kernel_rfl
theorem k_rewrite_Reorders : compFn Tryz.prog Tryz.f19 = some c_rewrite_Reorders := by kernel_rfl
theorem k_rewrite_Expand : compFn Tryz.prog Tryz.f21 = some c_rewrite_Expand := by kernel_rfl
theorem k_rewrite_used : compFn Tryz.prog Tryz.f32 = some c_rewrite_used := by kernel_rfl
theorem k_rewrite_nothing : compFn Tryz.prog Tryz.f33 = some c_rewrite_nothing := by kernel_rfl
theorem k_rewrite_inverse : compFn Tryz.prog Tryz.f34 = some c_rewrite_inverse := by kernel_rfl
theorem k_phasorref08_May : compFn Tryz.prog Tryz.f35 = some c_phasorref08_May := by kernel_rfl
theorem k_phasorref18_use : compFn Tryz.prog Tryz.f36 = some c_phasorref18_use := by kernel_rfl
theorem k_rewrite_compose : compFn Tryz.prog Tryz.f37 = some c_rewrite_compose := by kernel_rfl
theorem k_phasorref08_SameOp : compFn Tryz.prog Tryz.f38 = some c_phasorref08_SameOp := by kernel_rfl
theorem k_phasorlaw18_two : compFn Tryz.prog Tryz.f39 = some c_phasorlaw18_two := by kernel_rfl
theorem k_phasorlaw18_op : compFn Tryz.prog Tryz.f40 = some c_phasorlaw18_op := by kernel_rfl
theorem k_rewrite_Touch : compFn Tryz.prog Tryz.f41 = some c_rewrite_Touch := by kernel_rfl
theorem k_circuit_Check : compFn Tryz.prog Tryz.f42 = some c_circuit_Check := by kernel_rfl
theorem k_circuit_Copy : compFn Tryz.prog Tryz.f43 = some c_circuit_Copy := by kernel_rfl
theorem k_rewrite_compare : compFn Tryz.prog Tryz.f44 = some c_rewrite_compare := by kernel_rfl
theorem k_phasorref18_partner : compFn Tryz.prog Tryz.f45 = some c_phasorref18_partner := by kernel_rfl
theorem k_phasorref18_without : compFn Tryz.prog Tryz.f47 = some c_phasorref18_without := by kernel_rfl
theorem k_circuit_Same : compFn Tryz.prog Tryz.f48 = some c_circuit_Same := by kernel_rfl
theorem k_rewrite_written : compFn Tryz.prog Tryz.f49 = some c_rewrite_written := by kernel_rfl
theorem k_rewrite_plain : compFn Tryz.prog Tryz.f51 = some c_rewrite_plain := by kernel_rfl
theorem k_phasorref18_plain : compFn Tryz.prog Tryz.f52 = some c_phasorref18_plain := by kernel_rfl
theorem k_gate_Matrix : compFn Tryz.prog Tryz.f65 = some c_gate_Matrix := by kernel_rfl
theorem k_rewrite_partner : compFn Tryz.prog Tryz.f66 = some c_rewrite_partner := by kernel_rfl
theorem k_slices_Clone_int_int : compFn Tryz.prog Tryz.f69 = some c_slices_Clone_int_int := by kernel_rfl
theorem k_phasorref06_Matrix : compFn Tryz.prog Tryz.f71 = some c_phasorref06_Matrix := by kernel_rfl
theorem k_phasorref18_Touch : compFn Tryz.prog Tryz.f72 = some c_phasorref18_Touch := by kernel_rfl
theorem k_phasorref06_Times : compFn Tryz.prog Tryz.f73 = some c_phasorref06_Times := by kernel_rfl
theorem k_rewrite_without : compFn Tryz.prog Tryz.f75 = some c_rewrite_without := by kernel_rfl
theorem k_rewrite_undoes : compFn Tryz.prog Tryz.f76 = some c_rewrite_undoes := by kernel_rfl
theorem k_phasorref08_Check : compFn Tryz.prog Tryz.f77 = some c_phasorref08_Check := by kernel_rfl
theorem k_phasorref06_Inverse : compFn Tryz.prog Tryz.f78 = some c_phasorref06_Inverse := by kernel_rfl
theorem k_phasorref18_same : compFn Tryz.prog Tryz.f79 = some c_phasorref18_same := by kernel_rfl
theorem k_phasorref06_Compose : compFn Tryz.prog Tryz.f80 = some c_phasorref06_Compose := by kernel_rfl
theorem k_phasorref18_list : compFn Tryz.prog Tryz.f81 = some c_phasorref18_list := by kernel_rfl
theorem k_slices_Equal_int_int : compFn Tryz.prog Tryz.f82 = some c_slices_Equal_int_int := by kernel_rfl
theorem k_gate_Compose : compFn Tryz.prog Tryz.f83 = some c_gate_Compose := by kernel_rfl
theorem k_phasorref08_ints : compFn Tryz.prog Tryz.f84 = some c_phasorref08_ints := by kernel_rfl
theorem k_rewrite_asks : compFn Tryz.prog Tryz.f85 = some c_rewrite_asks := by kernel_rfl
theorem k_slices_ContainsFunc_int_int : compFn Tryz.prog Tryz.f86 = some c_slices_ContainsFunc_int_int := by kernel_rfl
theorem k_rewrite_Touch_1 : compFn Tryz.prog Tryz.f87 = some c_rewrite_Touch_1 := by kernel_rfl
theorem k_slices_Contains_int_int : compFn Tryz.prog Tryz.f88 = some c_slices_Contains_int_int := by kernel_rfl
theorem k_rewrite_Touch_2 : compFn Tryz.prog Tryz.f89 = some c_rewrite_Touch_2 := by kernel_rfl
theorem k_circuit_may : compFn Tryz.prog Tryz.f90 = some c_circuit_may := by kernel_rfl
theorem k_cmp_Or_int : compFn Tryz.prog Tryz.f91 = some c_cmp_Or_int := by kernel_rfl
theorem k_cmp_Compare_api_OpKind : compFn Tryz.prog Tryz.f92 = some c_cmp_Compare_api_OpKind := by kernel_rfl
theorem k_cmp_Compare_api_GateKind : compFn Tryz.prog Tryz.f93 = some c_cmp_Compare_api_GateKind := by kernel_rfl
theorem k_slices_Compare_int_int : compFn Tryz.prog Tryz.f94 = some c_slices_Compare_int_int := by kernel_rfl
theorem k_cmp_Compare_int : compFn Tryz.prog Tryz.f95 = some c_cmp_Compare_int := by kernel_rfl
theorem k_slices_EqualFunc_api_Op_api_Op_api_Op_api_Op : compFn Tryz.prog Tryz.f97 = some c_slices_EqualFunc_api_Op_api_Op_api_Op_api_Op := by kernel_rfl
theorem k_circuit_Same_1 : compFn Tryz.prog Tryz.f98 = some c_circuit_Same_1 := by kernel_rfl
theorem k_rewrite_written_1 : compFn Tryz.prog Tryz.f99 = some c_rewrite_written_1 := by kernel_rfl
theorem k_rewrite_written_2 : compFn Tryz.prog Tryz.f100 = some c_rewrite_written_2 := by kernel_rfl
theorem k_slices_Concat_api_Op_api_Op : compFn Tryz.prog Tryz.f101 = some c_slices_Concat_api_Op_api_Op := by kernel_rfl
theorem k_gate_Arity : compFn Tryz.prog Tryz.f104 = some c_gate_Arity := by kernel_rfl
theorem k_gate_Halving : compFn Tryz.prog Tryz.f105 = some c_gate_Halving := by kernel_rfl
theorem k_gate_halving : compFn Tryz.prog Tryz.f106 = some c_gate_halving := by kernel_rfl
theorem k_gate_Moves : compFn Tryz.prog Tryz.f107 = some c_gate_Moves := by kernel_rfl
theorem k_gate_power : compFn Tryz.prog Tryz.f108 = some c_gate_power := by kernel_rfl
theorem k_gate_clean : compFn Tryz.prog Tryz.f109 = some c_gate_clean := by kernel_rfl
theorem k_slices_Equal_complex128_complex128 : compFn Tryz.prog Tryz.f110 = some c_slices_Equal_complex128_complex128 := by kernel_rfl
theorem k_gate_times : compFn Tryz.prog Tryz.f111 = some c_gate_times := by kernel_rfl
theorem k_phasorref06_Is : compFn Tryz.prog Tryz.f115 = some c_phasorref06_Is := by kernel_rfl
theorem k_phasorref06_Arity : compFn Tryz.prog Tryz.f116 = some c_phasorref06_Arity := by kernel_rfl
theorem k_phasorref06_Halving : compFn Tryz.prog Tryz.f117 = some c_phasorref06_Halving := by kernel_rfl
theorem k_phasorref06_halves : compFn Tryz.prog Tryz.f118 = some c_phasorref06_halves := by kernel_rfl
theorem k_phasorref06_Moves : compFn Tryz.prog Tryz.f119 = some c_phasorref06_Moves := by kernel_rfl
theorem k_phasorref06_unit : compFn Tryz.prog Tryz.f120 = some c_phasorref06_unit := by kernel_rfl
theorem k_phasorref18_takes : compFn Tryz.prog Tryz.f121 = some c_phasorref18_takes := by kernel_rfl
theorem k_phasorref18_sets : compFn Tryz.prog Tryz.f122 = some c_phasorref18_sets := by kernel_rfl
theorem k_phasorref06_Alike : compFn Tryz.prog Tryz.f124 = some c_phasorref06_Alike := by kernel_rfl
theorem k_slices_Delete_api_Op_api_Op : compFn Tryz.prog Tryz.f125 = some c_slices_Delete_api_Op_api_Op := by kernel_rfl
theorem k_slices_Clone_api_Op_api_Op : compFn Tryz.prog Tryz.f126 = some c_slices_Clone_api_Op_api_Op := by kernel_rfl
theorem k_gate_Inverse : compFn Tryz.prog Tryz.f127 = some c_gate_Inverse := by kernel_rfl
theorem k_rewrite_normal : compFn Tryz.prog Tryz.f128 = some c_rewrite_normal := by kernel_rfl
theorem k_phasorref08_Op : compFn Tryz.prog Tryz.f129 = some c_phasorref08_Op := by kernel_rfl
theorem k_phasorref18_within : compFn Tryz.prog Tryz.f130 = some c_phasorref18_within := by kernel_rfl
theorem k_gate_Kinds : compFn Tryz.prog Tryz.f131 = some c_gate_Kinds := by kernel_rfl
theorem k_slices_IndexFunc_int_int : compFn Tryz.prog Tryz.f132 = some c_slices_IndexFunc_int_int := by kernel_rfl
theorem k_slices_Index_int_int : compFn Tryz.prog Tryz.f133 = some c_slices_Index_int_int := by kernel_rfl
theorem k_gate_Check : compFn Tryz.prog Tryz.f134 = some c_gate_Check := by kernel_rfl
theorem k_cmp_isNaN_api_OpKind : compFn Tryz.prog Tryz.f135 = some c_cmp_isNaN_api_OpKind := by kernel_rfl
theorem k_cmp_isNaN_api_GateKind : compFn Tryz.prog Tryz.f136 = some c_cmp_isNaN_api_GateKind := by kernel_rfl
theorem k_cmp_isNaN_int : compFn Tryz.prog Tryz.f137 = some c_cmp_isNaN_int := by kernel_rfl
theorem k_slices_Grow_api_Op_api_Op : compFn Tryz.prog Tryz.f138 = some c_slices_Grow_api_Op_api_Op := by kernel_rfl
theorem k_gate_of : compFn Tryz.prog Tryz.f145 = some c_gate_of := by kernel_rfl
theorem k_gate_Monomial : compFn Tryz.prog Tryz.f146 = some c_gate_Monomial := by kernel_rfl
theorem k_gate_Moves_1 : compFn Tryz.prog Tryz.f147 = some c_gate_Moves_1 := by kernel_rfl
theorem k_gate_Controls : compFn Tryz.prog Tryz.f148 = some c_gate_Controls := by kernel_rfl
theorem k_gate_Moves_2 : compFn Tryz.prog Tryz.f149 = some c_gate_Moves_2 := by kernel_rfl
theorem k_phasorref06_Monomial : compFn Tryz.prog Tryz.f151 = some c_phasorref06_Monomial := by kernel_rfl
theorem k_phasorref06_Check : compFn Tryz.prog Tryz.f153 = some c_phasorref06_Check := by kernel_rfl
theorem k_phasorref08_unlike : compFn Tryz.prog Tryz.f154 = some c_phasorref08_unlike := by kernel_rfl
theorem k_gate_table : compFn Tryz.prog Tryz.f156 = some c_gate_table := by kernel_rfl
theorem tbl_ok : ∀ p ∈ tbl, ∃ fn, Tryz.prog.funcs[p.1]? = some fn ∧ (fn.name == "runtime.NumGoroutine") = false ∧ compFn Tryz.prog fn = some p.2 := by
  unfold tbl
  simp only [List.forall_mem_cons]
  exact ⟨⟨Tryz.f3, Tryz.func3, by kernel_rfl, k_phasorlaw18_RewriteRules⟩, ⟨Tryz.f8, Tryz.func8, by kernel_rfl, k_phasorref08_Copy⟩, ⟨Tryz.f9, Tryz.func9, by kernel_rfl, k_rewrite_Cancel⟩, ⟨Tryz.f10, Tryz.func10, by kernel_rfl, k_phasorref18_Rules⟩, ⟨Tryz.f11, Tryz.func11, by kernel_rfl, k_rewrite_Merge⟩, ⟨Tryz.f12, Tryz.func12, by kernel_rfl, k_rewrite_Simplify⟩, ⟨Tryz.f13, Tryz.func13, by kernel_rfl, k_phasorlaw18_num⟩, ⟨Tryz.f14, Tryz.func14, by kernel_rfl, k_phasorref08_Same⟩, ⟨Tryz.f15, Tryz.func15, by kernel_rfl, k_phasorlaw18_own⟩, ⟨Tryz.f16, Tryz.func16, by kernel_rfl, k_phasorlaw18_alive⟩, ⟨Tryz.f17, Tryz.func17, by kernel_rfl, k_rewrite_Order⟩, ⟨Tryz.f19, Tryz.func19, by kernel_rfl, k_rewrite_Reorders⟩, ⟨Tryz.f21, Tryz.func21, by kernel_rfl, k_rewrite_Expand⟩, ⟨Tryz.f32, Tryz.func32, by kernel_rfl, k_rewrite_used⟩, ⟨Tryz.f33, Tryz.func33, by kernel_rfl, k_rewrite_nothing⟩, ⟨Tryz.f34, Tryz.func34, by kernel_rfl, k_rewrite_inverse⟩, ⟨Tryz.f35, Tryz.func35, by kernel_rfl, k_phasorref08_May⟩, ⟨Tryz.f36, Tryz.func36, by kernel_rfl, k_phasorref18_use⟩, ⟨Tryz.f37, Tryz.func37, by kernel_rfl, k_rewrite_compose⟩, ⟨Tryz.f38, Tryz.func38, by kernel_rfl, k_phasorref08_SameOp⟩, ⟨Tryz.f39, Tryz.func39, by kernel_rfl, k_phasorlaw18_two⟩, ⟨Tryz.f40, Tryz.func40, by kernel_rfl, k_phasorlaw18_op⟩, ⟨Tryz.f41, Tryz.func41, by kernel_rfl, k_rewrite_Touch⟩, ⟨Tryz.f42, Tryz.func42, by kernel_rfl, k_circuit_Check⟩, ⟨Tryz.f43, Tryz.func43, by kernel_rfl, k_circuit_Copy⟩, ⟨Tryz.f44, Tryz.func44, by kernel_rfl, k_rewrite_compare⟩, ⟨Tryz.f45, Tryz.func45, by kernel_rfl, k_phasorref18_partner⟩, ⟨Tryz.f47, Tryz.func47, by kernel_rfl, k_phasorref18_without⟩, ⟨Tryz.f48, Tryz.func48, by kernel_rfl, k_circuit_Same⟩, ⟨Tryz.f49, Tryz.func49, by kernel_rfl, k_rewrite_written⟩, ⟨Tryz.f51, Tryz.func51, by kernel_rfl, k_rewrite_plain⟩, ⟨Tryz.f52, Tryz.func52, by kernel_rfl, k_phasorref18_plain⟩, ⟨Tryz.f65, Tryz.func65, by kernel_rfl, k_gate_Matrix⟩, ⟨Tryz.f66, Tryz.func66, by kernel_rfl, k_rewrite_partner⟩, ⟨Tryz.f69, Tryz.func69, by kernel_rfl, k_slices_Clone_int_int⟩, ⟨Tryz.f71, Tryz.func71, by kernel_rfl, k_phasorref06_Matrix⟩, ⟨Tryz.f72, Tryz.func72, by kernel_rfl, k_phasorref18_Touch⟩, ⟨Tryz.f73, Tryz.func73, by kernel_rfl, k_phasorref06_Times⟩, ⟨Tryz.f75, Tryz.func75, by kernel_rfl, k_rewrite_without⟩, ⟨Tryz.f76, Tryz.func76, by kernel_rfl, k_rewrite_undoes⟩, ⟨Tryz.f77, Tryz.func77, by kernel_rfl, k_phasorref08_Check⟩, ⟨Tryz.f78, Tryz.func78, by kernel_rfl, k_phasorref06_Inverse⟩, ⟨Tryz.f79, Tryz.func79, by kernel_rfl, k_phasorref18_same⟩, ⟨Tryz.f80, Tryz.func80, by kernel_rfl, k_phasorref06_Compose⟩, ⟨Tryz.f81, Tryz.func81, by kernel_rfl, k_phasorref18_list⟩, ⟨Tryz.f82, Tryz.func82, by kernel_rfl, k_slices_Equal_int_int⟩, ⟨Tryz.f83, Tryz.func83, by kernel_rfl, k_gate_Compose⟩, ⟨Tryz.f84, Tryz.func84, by kernel_rfl, k_phasorref08_ints⟩, ⟨Tryz.f85, Tryz.func85, by kernel_rfl, k_rewrite_asks⟩, ⟨Tryz.f86, Tryz.func86, by kernel_rfl, k_slices_ContainsFunc_int_int⟩, ⟨Tryz.f87, Tryz.func87, by kernel_rfl, k_rewrite_Touch_1⟩, ⟨Tryz.f88, Tryz.func88, by kernel_rfl, k_slices_Contains_int_int⟩, ⟨Tryz.f89, Tryz.func89, by kernel_rfl, k_rewrite_Touch_2⟩, ⟨Tryz.f90, Tryz.func90, by kernel_rfl, k_circuit_may⟩, ⟨Tryz.f91, Tryz.func91, by kernel_rfl, k_cmp_Or_int⟩, ⟨Tryz.f92, Tryz.func92, by kernel_rfl, k_cmp_Compare_api_OpKind⟩, ⟨Tryz.f93, Tryz.func93, by kernel_rfl, k_cmp_Compare_api_GateKind⟩, ⟨Tryz.f94, Tryz.func94, by kernel_rfl, k_slices_Compare_int_int⟩, ⟨Tryz.f95, Tryz.func95, by kernel_rfl, k_cmp_Compare_int⟩, ⟨Tryz.f97, Tryz.func97, by kernel_rfl, k_slices_EqualFunc_api_Op_api_Op_api_Op_api_Op⟩, ⟨Tryz.f98, Tryz.func98, by kernel_rfl, k_circuit_Same_1⟩, ⟨Tryz.f99, Tryz.func99, by kernel_rfl, k_rewrite_written_1⟩, ⟨Tryz.f100, Tryz.func100, by kernel_rfl, k_rewrite_written_2⟩, ⟨Tryz.f101, Tryz.func101, by kernel_rfl, k_slices_Concat_api_Op_api_Op⟩, ⟨Tryz.f104, Tryz.func104, by kernel_rfl, k_gate_Arity⟩, ⟨Tryz.f105, Tryz.func105, by kernel_rfl, k_gate_Halving⟩, ⟨Tryz.f106, Tryz.func106, by kernel_rfl, k_gate_halving⟩, ⟨Tryz.f107, Tryz.func107, by kernel_rfl, k_gate_Moves⟩, ⟨Tryz.f108, Tryz.func108, by kernel_rfl, k_gate_power⟩, ⟨Tryz.f109, Tryz.func109, by kernel_rfl, k_gate_clean⟩, ⟨Tryz.f110, Tryz.func110, by kernel_rfl, k_slices_Equal_complex128_complex128⟩, ⟨Tryz.f111, Tryz.func111, by kernel_rfl, k_gate_times⟩, ⟨Tryz.f115, Tryz.func115, by kernel_rfl, k_phasorref06_Is⟩, ⟨Tryz.f116, Tryz.func116, by kernel_rfl, k_phasorref06_Arity⟩, ⟨Tryz.f117, Tryz.func117, by kernel_rfl, k_phasorref06_Halving⟩, ⟨Tryz.f118, Tryz.func118, by kernel_rfl, k_phasorref06_halves⟩, ⟨Tryz.f119, Tryz.func119, by kernel_rfl, k_phasorref06_Moves⟩, ⟨Tryz.f120, Tryz.func120, by kernel_rfl, k_phasorref06_unit⟩, ⟨Tryz.f121, Tryz.func121, by kernel_rfl, k_phasorref18_takes⟩, ⟨Tryz.f122, Tryz.func122, by kernel_rfl, k_phasorref18_sets⟩, ⟨Tryz.f124, Tryz.func124, by kernel_rfl, k_phasorref06_Alike⟩, ⟨Tryz.f125, Tryz.func125, by kernel_rfl, k_slices_Delete_api_Op_api_Op⟩, ⟨Tryz.f126, Tryz.func126, by kernel_rfl, k_slices_Clone_api_Op_api_Op⟩, ⟨Tryz.f127, Tryz.func127, by kernel_rfl, k_gate_Inverse⟩, ⟨Tryz.f128, Tryz.func128, by kernel_rfl, k_rewrite_normal⟩, ⟨Tryz.f129, Tryz.func129, by kernel_rfl, k_phasorref08_Op⟩, ⟨Tryz.f130, Tryz.func130, by kernel_rfl, k_phasorref18_within⟩, ⟨Tryz.f131, Tryz.func131, by kernel_rfl, k_gate_Kinds⟩, ⟨Tryz.f132, Tryz.func132, by kernel_rfl, k_slices_IndexFunc_int_int⟩, ⟨Tryz.f133, Tryz.func133, by kernel_rfl, k_slices_Index_int_int⟩, ⟨Tryz.f134, Tryz.func134, by kernel_rfl, k_gate_Check⟩, ⟨Tryz.f135, Tryz.func135, by kernel_rfl, k_cmp_isNaN_api_OpKind⟩, ⟨Tryz.f136, Tryz.func136, by kernel_rfl, k_cmp_isNaN_api_GateKind⟩, ⟨Tryz.f137, Tryz.func137, by kernel_rfl, k_cmp_isNaN_int⟩, ⟨Tryz.f138, Tryz.func138, by kernel_rfl, k_slices_Grow_api_Op_api_Op⟩, ⟨Tryz.f145, Tryz.func145, by kernel_rfl, k_gate_of⟩, ⟨Tryz.f146, Tryz.func146, by kernel_rfl, k_gate_Monomial⟩, ⟨Tryz.f147, Tryz.func147, by kernel_rfl, k_gate_Moves_1⟩, ⟨Tryz.f148, Tryz.func148, by kernel_rfl, k_gate_Controls⟩, ⟨Tryz.f149, Tryz.func149, by kernel_rfl, k_gate_Moves_2⟩, ⟨Tryz.f151, Tryz.func151, by kernel_rfl, k_phasorref06_Monomial⟩, ⟨Tryz.f153, Tryz.func153, by kernel_rfl, k_phasorref06_Check⟩, ⟨Tryz.f154, Tryz.func154, by kernel_rfl, k_phasorref08_unlike⟩, ⟨Tryz.f156, Tryz.func156, by kernel_rfl, k_gate_table⟩,
    fun _ h => absurd h List.not_mem_nil⟩
end Go.Proofs.YtmflheoafeenfaaGreat
