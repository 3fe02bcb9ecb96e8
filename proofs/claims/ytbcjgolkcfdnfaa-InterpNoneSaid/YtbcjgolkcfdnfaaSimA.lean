import Derived.Calls
import Derived.Orders
import Derived.Deep.MidRow
/- Sim, first text: an abstract memory, how it stands to the machine's, and what operations that only compute come to there. Plain theorems about the model; no condition. -/
namespace Go.Proofs.Ytbcjgolkcfdnfaa.Sim
open Go

/-- Where a row of the abstract memory stands: its block, its first cell, the end of the block. -/
structure Pl where
  b : Nat
  base : Nat
  top : Nat

/-- What stands in the abstract memory: a variable, a row of elements (its family; whether it may be written and appended to; whether elder rows share its cells), a map (key, value, when it came), a walk through a map. -/
inductive Ob where
  | var (c : List Value)
  | arr (c : List Value) (fam : Nat) (own kin : Bool)
  | map (es : List (Value × Value × Nat)) (clock : Nat)
  | iter (m : Option Nat) (since : Nat) (seen : List Nat) (last : Nat)

structure St where
  heap : Nat → Option Ob
  next : Nat
  dead : Nat → Bool

abbrev Mu := Nat → Option Pl

mutual
/-- How an abstract value stands to a machine's: addresses by 'm'. A slice's third number is its element's size. -/
inductive VR (m : Mu) : Value → Value → Prop
  | bool (b : Bool) : VR m (.bool b) (.bool b)
  | int (k : IntKind) (n : Int) : VR m (.int k n) (.int k n)
  | string (s : ByteArray) : VR m (.string s) (.string s)
  | nilp : VR m (.pointer none) (.pointer none)
  | ptr {i off : Nat} {p : Pl} (h : m i = some p) : VR m (.pointer (some ⟨i, off, none⟩)) (.pointer (some ⟨p.b, p.base + off, none⟩))
  | nilsl : VR m (.slice none 0 0) (.slice none 0 0)
  | sl {i off len cap sz : Nat} {p : Pl} (h : m i = some p) (hl : len ≤ cap) (ht : p.base + off + cap * sz ≤ p.top) :
      VR m (.slice (some ⟨i, off, none⟩) len sz) (.slice (some ⟨p.b, p.base + off, none⟩) len cap)
  | esl {i off sz : Nat} {a : Addr} : VR m (.slice (some ⟨i, off, none⟩) 0 sz) (.slice (some a) 0 0)
  | nilmap : VR m (.map none) (.map none)
  | map {i : Nat} {p : Pl} (h : m i = some p) : VR m (.map (some i)) (.map (some p.b))
  | func {f : FuncId} {fs fs' cs cs' : Array Value} (h1 : VRs m fs.toList fs'.toList) (h2 : VRs m cs.toList cs'.toList) : VR m (.func (.func f) fs cs) (.func (.func f) fs' cs')
  | nilFunc : VR m .nilFunc .nilFunc
  | iface {t : TypeId} {v v' : Value} (h : VR m v v') : VR m (.iface t v) (.iface t v')
  | nilIface : VR m .nilIface .nilIface
  | agg {cs cs' : Array Value} (h : VRs m cs.toList cs'.toList) (h1 : ∀ v ∈ cs.toList, v.oneCell' = true) : VR m (.agg cs) (.agg cs')
  | tuple {cs cs' : Array Value} (h : VRs m cs.toList cs'.toList) : VR m (.tuple cs) (.tuple cs')
inductive VRs (m : Mu) : List Value → List Value → Prop
  | nil : VRs m [] []
  | cons {v v' : Value} {l l' : List Value} (h : VR m v v') (t : VRs m l l') : VRs m (v :: l) (v' :: l')
end

def Sub (m m' : Mu) : Prop := ∀ i p, m i = some p → m' i = some p
theorem Sub.refl (m : Mu) : Sub m m := fun _ _ h => h
theorem Sub.trans {m m' m'' : Mu} (h : Sub m m') (h' : Sub m' m'') : Sub m m'' := fun i p hp => h' i p (h i p hp)

mutual
theorem VR.mono {m m' : Mu} (s : Sub m m') : ∀ {v v' : Value}, VR m v v' → VR m' v v'
  | _, _, .bool b => .bool b
  | _, _, .int k n => .int k n
  | _, _, .string x => .string x
  | _, _, .nilp => .nilp
  | _, _, .ptr h => .ptr (s _ _ h)
  | _, _, .nilsl => .nilsl
  | _, _, .sl h hl ht => .sl (s _ _ h) hl ht
  | _, _, .esl => .esl
  | _, _, .nilmap => .nilmap
  | _, _, .map h => .map (s _ _ h)
  | _, _, .func h1 h2 => .func (VRs.mono s h1) (VRs.mono s h2)
  | _, _, .nilFunc => .nilFunc
  | _, _, .iface h => .iface (VR.mono s h)
  | _, _, .nilIface => .nilIface
  | _, _, .agg h h1 => .agg (VRs.mono s h) h1
  | _, _, .tuple h => .tuple (VRs.mono s h)
theorem VRs.mono {m m' : Mu} (s : Sub m m') : ∀ {l l' : List Value}, VRs m l l' → VRs m' l l'
  | _, _, .nil => .nil
  | _, _, .cons h t => .cons (VR.mono s h) (VRs.mono s t)
end

section
variable {m : Mu}
theorem VRs.len : ∀ {l l' : List Value}, VRs m l l' → l.length = l'.length
  | _, _, .nil => rfl
  | _, _, .cons _ t => by simp [VRs.len t]
theorem VRs.get : ∀ {l l' : List Value}, VRs m l l' → ∀ (i : Nat) (v : Value), l[i]? = some v → ∃ v', l'[i]? = some v' ∧ VR m v v'
  | _, _, .nil, i, v, h => by simp at h
  | _, _, .cons (v' := v') h t, 0, v, e => by simp at e; subst e; exact ⟨v', by simp, h⟩
  | _, _, .cons h t, i + 1, v, e => by
    obtain ⟨u, hu, hr⟩ := VRs.get t i v (by simpa using e)
    exact ⟨u, by simpa using hu, hr⟩
theorem VRs.app : ∀ {a a' b b' : List Value}, VRs m a a' → VRs m b b' → VRs m (a ++ b) (a' ++ b')
  | _, _, _, _, .nil, h => h
  | _, _, _, _, .cons h t, h' => .cons h (VRs.app t h')
theorem VRs.take : ∀ {a a' : List Value} (n : Nat), VRs m a a' → VRs m (a.take n) (a'.take n)
  | _, _, 0, _ => by simpa using VRs.nil
  | _, _, n + 1, .nil => by simpa using VRs.nil
  | _, _, n + 1, .cons h t => by simpa using VRs.cons h (VRs.take n t)
theorem VRs.drop : ∀ {a a' : List Value} (n : Nat), VRs m a a' → VRs m (a.drop n) (a'.drop n)
  | _, _, 0, h => by simpa using h
  | _, _, n + 1, .nil => by simpa using VRs.nil
  | _, _, n + 1, .cons _ t => by simpa using VRs.drop n t
theorem VRs.of_get : ∀ {l l' : List Value}, l.length = l'.length → (∀ (i : Nat) (v v' : Value), l[i]? = some v → l'[i]? = some v' → VR m v v') → VRs m l l'
  | [], [], _, _ => .nil
  | v :: l, v' :: l', hl, h => .cons (h 0 v v' rfl rfl) (VRs.of_get (by simpa using hl) fun i u u' hu hu' => h (i + 1) u u' (by simpa using hu) (by simpa using hu'))
  | [], _ :: _, hl, _ => by simp at hl
  | _ :: _, [], hl, _ => by simp at hl
theorem VRs.set {a a' : List Value} (h : VRs m a a') (i : Nat) {v v' : Value} (hv : VR m v v') : VRs m (a.set i v) (a'.set i v') := by
  refine .of_get (by simp [h.len]) fun j u u' hu hu' => ?_
  rw [List.getElem?_set] at hu hu'
  split at hu
  · rename_i e; subst e
    split at hu
    · simp at hu; subst hu
      simp at hu'
      rw [← hu'.2]; exact hv
    · simp at hu
  · rename_i e
    rw [if_neg e] at hu'
    obtain ⟨w, hw, hr⟩ := h.get j u hu
    rw [hw] at hu'; cases hu'; exact hr
theorem VRs.rep {v v' : Value} (h : VR m v v') : ∀ n, VRs m (List.replicate n v) (List.replicate n v')
  | 0 => .nil
  | n + 1 => .cons h (VRs.rep h n)
theorem VR.cells {v v' : Value} (h : VR m v v') : VRs m v.cells.toList v'.cells.toList := by
  cases h with
  | agg h _ => exact h
  | _ => exact .cons (by constructor <;> assumption) .nil
end

/-- A value without addresses. -/
inductive Flat : Value → Prop
  | bool (b : Bool) : Flat (.bool b)
  | int (k : IntKind) (n : Int) : Flat (.int k n)
  | string (s : ByteArray) : Flat (.string s)
  | nilp : Flat (.pointer none)
  | nilsl : Flat (.slice none 0 0)
  | nilmap : Flat (.map none)
  | nilFunc : Flat .nilFunc
  | nilIface : Flat .nilIface
  | agg {cs : Array Value} (h : ∀ v ∈ cs.toList, Flat v) (h1 : ∀ v ∈ cs.toList, v.oneCell' = true) : Flat (.agg cs)
  | tuple {cs : Array Value} (h : ∀ v ∈ cs.toList, Flat v) : Flat (.tuple cs)

theorem VRs.flat {m : Mu} : ∀ {l : List Value}, (∀ v ∈ l, VR m v v) → VRs m l l
  | [], _ => .nil
  | v :: l, h => .cons (h v (by simp)) (VRs.flat fun u hu => h u (by simp [hu]))

theorem VR.flat {m : Mu} {v : Value} (h : Flat v) : VR m v v := by
  induction h with
  | bool b => exact .bool b
  | int k n => exact .int k n
  | string s => exact .string s
  | nilp => exact .nilp
  | nilsl => exact .nilsl
  | nilmap => exact .nilmap
  | nilFunc => exact .nilFunc
  | nilIface => exact .nilIface
  | agg _ h1 ih => exact .agg (VRs.flat ih) h1
  | tuple _ ih => exact .tuple (VRs.flat ih)


mutual
theorem VR.flat_inv {m : Mu} : ∀ {v v' : Value}, Flat v → VR m v v' → v' = v
  | _, _, _, .bool b => rfl
  | _, _, _, .int k n => rfl
  | _, _, _, .string x => rfl
  | _, _, _, .nilp => rfl
  | _, _, hf, .ptr h => nomatch hf
  | _, _, _, .nilsl => rfl
  | _, _, hf, .sl h hl ht => nomatch hf
  | _, _, hf, .esl => nomatch hf
  | _, _, _, .nilmap => rfl
  | _, _, hf, .map h => nomatch hf
  | _, _, hf, .func h1 h2 => nomatch hf
  | _, _, _, .nilFunc => rfl
  | _, _, hf, .iface h => nomatch hf
  | _, _, _, .nilIface => rfl
  | _, _, hf, .agg h h1 => by
    cases hf with
    | agg hf _ => rw [Array.toList_inj.1 (VRs.flat_inv hf h)]
  | _, _, hf, .tuple h => by
    cases hf with
    | tuple hf => rw [Array.toList_inj.1 (VRs.flat_inv hf h)]
theorem VRs.flat_inv {m : Mu} : ∀ {l l' : List Value}, (∀ v ∈ l, Flat v) → VRs m l l' → l' = l
  | _, _, _, .nil => rfl
  | _, _, hf, .cons h t => by rw [VR.flat_inv (hf _ (by simp)) h, VRs.flat_inv (fun v hv => hf v (by simp [hv])) t]
end

/-- Not several results. -/
def noTup : Value → Bool
  | .tuple _ => false
  | _ => true

theorem VR.one {m : Mu} {v v' : Value} (h : VR m v v') : v'.oneCell' = v.oneCell' := by
  cases h <;> rfl
theorem VR.ones {m : Mu} {v v' : Value} (h : VR m v v') (hn : noTup v = true) : ∀ u ∈ v.cells.toList, u.oneCell' = true := by
  cases h with
  | agg _ h1 => exact h1
  | tuple _ => simp [noTup] at hn
  | _ => intro u hu; simp [Value.cells] at hu; subst hu; rfl
theorem VRs.ones {m : Mu} : ∀ {l l' : List Value}, VRs m l l' → (∀ u ∈ l, u.oneCell' = true) → ∀ u ∈ l', u.oneCell' = true
  | _, _, .nil, _ => fun _ h => by simp at h
  | _, _, .cons h t, h1 => fun u hu => by
    rcases List.mem_cons.1 hu with rfl | hu
    · rw [h.one]; exact h1 _ (by simp)
    · exact VRs.ones t (fun x hx => h1 x (by simp [hx])) u hu

/-- A value without addresses, by a test. -/
def flatB : Nat → Value → Bool
  | 0, _ => false
  | n + 1, v => match v with
    | .bool _ | .int _ _ | .string _ | .pointer none | .map none | .nilFunc | .nilIface => true
    | .slice none 0 0 => true
    | .agg cs => cs.toList.all (fun u => u.oneCell' && flatB n u)
    | .tuple cs => cs.toList.all (flatB n)
    | _ => false
theorem Flat.of : ∀ (n : Nat) (v : Value), flatB n v = true → Flat v
  | 0, _, h => by simp [flatB] at h
  | n + 1, v, h => by
    unfold flatB at h
    split at h
    · exact .bool _
    · exact .int _ _
    · exact .string _
    · exact .nilp
    · exact .nilmap
    · exact .nilFunc
    · exact .nilIface
    · exact .nilsl
    · rename_i cs
      rw [List.all_eq_true] at h
      exact .agg (fun u hu => Flat.of n u (by have := h u hu; simp at this; exact this.2)) (fun u hu => by have := h u hu; simp at this; exact this.1)
    · rename_i cs
      rw [List.all_eq_true] at h
      exact .tuple (fun u hu => Flat.of n u (h u hu))
    · simp at h
end Go.Proofs.Ytbcjgolkcfdnfaa.Sim
