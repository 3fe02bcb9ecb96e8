import Derived.Test.YtbcjgolkcfdnfaaSimK
/- Sim, twelfth text: any order of a region comes to what one of the given orders comes to. No condition. -/
namespace Go.Proofs.Ytbcjgolkcfdnfaa.Sim
open Go

section
variable {P : Program} {C : CT} {esc : List Nat} {Q : Ex → A → St → Prop} {K K' : A → St → Prop} {a : A} {s : St} {ops : Array Oper} {c : Nat → List Nat}

abbrev gOf (ops : Array Oper) : Nat → Option Tmp := fun j => (ops[j]?).bind (·.dst)

/-- What must hold behind an operation, of those that went ahead of it. -/
def oblD (P : Program) (esc : List Nat) (ops : Array Oper) (c : Nat → List Nat) (prev : List Nat) (i : Nat) (o : Oper) (a : A) (s : St) : Prop :=
  (kindX P esc o = 2 → ∀ k ∈ c i, k ∈ prev → stabX P ops k a s) ∧ (kindX P esc o = 0 → ∀ k ∈ c i, ∀ d, (ops[k]?).bind (ownX esc) = some d → apartX ops i d a)

def drawD (P : Program) (C : CT) (esc : List Nat) (ops : Array Oper) (Q : Ex → A → St → Prop) (c : Nat → List Nat) : List Nat → List Nat → (A → St → Prop) → A → St → Prop
  | _, [], K, a, s => K a s
  | prev, i :: r, K, a, s => ∃ o, ops[i]? = some o ∧ gX P C esc (gOf ops) Q o (fun a s => oblD P esc ops c prev i o a s ∧ drawD P C esc ops Q c (i :: prev) r K a s) a s

theorem oblsX_spec {i : Nat} {o : Oper} : ∀ {l : List Nat} {a : A} {s : St}, oblsX P esc ops i o l K a s → (∀ k ∈ l, oblX P esc ops i o k a s) ∧ K a s
  | [], _, _, h => ⟨by simp, h⟩
  | k :: l, _, _, h => by
    obtain ⟨h1, h2⟩ := oblsX_spec h.2
    exact ⟨fun x hx => (List.mem_cons.1 hx).elim (fun e => e ▸ h.1) (h1 x), h2⟩

theorem draw_to (hC : MonoQ C Q) : ∀ (l prev : List Nat) {a : A} {s : St}, drawX P C esc ops Q c l K a s → drawD P C esc ops Q c prev l K a s
  | [], _, _, _, h => h
  | i :: l, prev, a, s, h => by
    unfold drawX at h
    cases ho : ops[i]? with
    | none => simp [ho] at h
    | some o =>
      simp only [ho] at h
      refine ⟨o, ho, gX_mono hC h ?_⟩
      intro a s h
      obtain ⟨h1, h2⟩ := oblsX_spec h
      refine ⟨⟨fun hk k hkc _ => by have := h1 k hkc; simpa [oblX, hk] using this, fun hk k hkc d hd => by have := h1 k hkc; simpa [oblX, hk, hd] using this⟩, draw_to hC l _ h2⟩

theorem drawD_mono (hC : MonoQ C Q) (hk : ∀ a s, K a s → K' a s) : ∀ (l prev prev' : List Nat), (∀ x ∈ prev', x ∈ prev) → ∀ {a : A} {s : St}, drawD P C esc ops Q c prev l K a s → drawD P C esc ops Q c prev' l K' a s
  | [], _, _, _, _, _, h => hk _ _ h
  | i :: l, prev, prev', hp, a, s, ⟨o, ho, h⟩ => by
    refine ⟨o, ho, gX_mono hC h ?_⟩
    rintro a s ⟨h1, h2⟩
    exact ⟨⟨fun hk k hkc hkp => h1.1 hk k hkc (hp k hkp), h1.2⟩, drawD_mono hC hk l _ _ (fun x hx => by simp at hx ⊢; exact hx.imp id (hp x)) h2⟩

theorem drawD_app (hC : MonoQ C Q) {r : List Nat} : ∀ (l prev : List Nat) {a : A} {s : St}, drawD P C esc ops Q c prev (l ++ r) K a s ↔ drawD P C esc ops Q c prev l (drawD P C esc ops Q c (l.reverse ++ prev) r K) a s
  | [], prev, a, s => by simp [drawD]
  | i :: l, prev, a, s => by
    simp only [List.cons_append, drawD, List.reverse_cons, List.append_assoc, List.nil_append]
    constructor
    · rintro ⟨o, ho, h⟩
      exact ⟨o, ho, gX_mono hC h fun a s ⟨h1, h2⟩ => ⟨h1, (drawD_app hC l (i :: prev)).1 h2⟩⟩
    · rintro ⟨o, ho, h⟩
      exact ⟨o, ho, gX_mono hC h fun a s ⟨h1, h2⟩ => ⟨h1, (drawD_app hC l (i :: prev)).2 h2⟩⟩

/-- Nothing that a load looks at, or writes, is written. -/
def noOver (g : Nat → Option Tmp) (q y : Oper) : Bool := match y.dst with | some t => !uses g q t && !(q.dst == some t) | none => true
def isCallB (P : Program) (o : Oper) : Bool := match o.op with | .call { callee := .value (.func _), .. } => true | op => isEffOp P op
def isAllocB (P : Program) (o : Oper) : Bool := match o.op with | .alloc e => (zeroT P e).isSome | _ => false
def selfB (g : Nat → Option Tmp) (o : Oper) : Bool := match o.dst with | some t => !uses g o t | none => true

/-- A test of two operations, of which the first one stands ahead in an order. -/
def pairB (P : Program) (esc : List Nat) (ops : Array Oper) (c : Nat → List Nat) (lt : Nat → Nat → Bool) (x y : Nat) : Bool :=
  match ops[x]?, ops[y]? with
  | some ox, some oy =>
    (!isLoad ox || noOver (gOf ops) ox oy) &&
    (lt x y || (indep (gOf ops) ox oy &&
      match kindX P esc ox, kindX P esc oy with
      | 0, 0 => true
      | 0, 1 => !isLoad ox || (c x).contains y
      | 0, 2 => !isLoad ox || (c y).contains x
      | 1, 1 => true
      | 2, 1 => isCallB P ox && isAllocB P oy
      | 2, 2 => true
      | 2, 0 => isBuildB ox && !isLoad oy
      | _, _ => false))
  | _, _ => false

/-- A test of one operation. -/
def oneB (P : Program) (esc : List Nat) (ops : Array Oper) (x : Nat) : Bool :=
  match ops[x]? with
  | some o => (match kindX P esc o with | 0 => selfB (gOf ops) o | 1 => o.guard.isNone | 2 => true | _ => false)
  | none => false

theorem pair_spec {lt : Nat → Nat → Bool} {x y : Nat} {ox oy : Oper} (hx : ops[x]? = some ox) (hy : ops[y]? = some oy) (h : pairB P esc ops c lt x y = true) :
    (isLoad ox = true → noOver (gOf ops) ox oy = true) ∧ (lt x y = false → indep (gOf ops) ox oy = true ∧
      (kindX P esc ox = 0 ∧ kindX P esc oy = 0 ∨ kindX P esc ox = 0 ∧ kindX P esc oy = 1 ∧ (isLoad ox = true → y ∈ c x) ∨ kindX P esc ox = 0 ∧ kindX P esc oy = 2 ∧ (isLoad ox = true → x ∈ c y) ∨
       kindX P esc ox = 1 ∧ kindX P esc oy = 1 ∨ kindX P esc ox = 2 ∧ kindX P esc oy = 1 ∧ isCallB P ox = true ∧ isAllocB P oy = true ∨ kindX P esc ox = 2 ∧ kindX P esc oy = 2 ∨ kindX P esc ox = 2 ∧ kindX P esc oy = 0 ∧ isBuildB ox = true ∧ isLoad oy = false)) := by
  unfold pairB at h
  rw [hx, hy] at h
  simp only [Bool.and_eq_true, Bool.or_eq_true, Bool.not_eq_true'] at h
  refine ⟨fun hl => h.1.resolve_left (by simp [hl]), fun hlt => ?_⟩
  obtain ⟨h1, h2⟩ := h.2.resolve_left (by simp [hlt])
  refine ⟨h1, ?_⟩
  split at h2
  · rename_i e1 e2; exact .inl ⟨e1, e2⟩
  · rename_i e1 e2; refine .inr (.inl ⟨e1, e2, fun hl => ?_⟩); simpa [hl] using h2
  · rename_i e1 e2; refine .inr (.inr (.inl ⟨e1, e2, fun hl => ?_⟩)); simpa [hl] using h2
  · rename_i e1 e2; exact .inr (.inr (.inr (.inl ⟨e1, e2⟩)))
  · rename_i e1 e2; simp only [Bool.and_eq_true] at h2; exact .inr (.inr (.inr (.inr (.inl ⟨e1, e2, h2⟩))))
  · rename_i e1 e2; exact .inr (.inr (.inr (.inr (.inr (.inl ⟨e1, e2⟩)))))
  · rename_i e1 e2
    simp only [Bool.and_eq_true, Bool.not_eq_true'] at h2
    exact .inr (.inr (.inr (.inr (.inr (.inr ⟨e1, e2, h2.1, h2.2⟩)))))
  · cases h2

theorem noOver_spec {g : Nat → Option Tmp} {q y : Oper} (h : noOver g q y = true) : (∀ t, y.dst = some t → uses g q t = false) ∧ (∀ t, y.dst = some t → q.dst ≠ some t) := by
  unfold noOver at h
  refine ⟨fun t ht => ?_, fun t ht => ?_⟩ <;> rw [ht] at h <;> simp at h
  · exact h.1
  · exact h.2

theorem self_spec {g : Nat → Option Tmp} {o : Oper} (h : selfB g o = true) : ∀ t, o.dst = some t → uses g o t = false := fun t ht => by
  unfold selfB at h
  rw [ht] at h
  simpa using h

/-- A load is still not of a variable, as long as its address is not written. -/
theorem apart_congr {q : Oper} {k d : Nat} {a a' : A} (hk : ops[k]? = some q) (ht : ∀ t, uses (gOf ops) q t = true → a'.t t = a.t t) (h : apartX ops k d a) : apartX ops k d a' := by
  unfold apartX at h ⊢
  rw [hk] at h ⊢
  obtain ⟨dst, op, type, pos, after, guard⟩ := q
  split at h
  · rename_i _ t x _ _ _ e
    cases e
    rw [ev_congr (x := x) (a := a) (a' := a') fun t hut => ht t (by
      unfold uses
      rw [Bool.or_eq_true]
      left
      rw [List.any_eq_true]
      exact ⟨x, by simp [Op.operands], hut⟩)]
    exact h
  · exact h.elim

theorem stab_put' {q : Oper} {k : Nat} {a : A} {d : Option Tmp} {v : Value} (hk : ops[k]? = some q) (h1 : ∀ t, d = some t → uses (gOf ops) q t = false) (h2 : ∀ t, d = some t → q.dst ≠ some t)
    (h : stabX P ops k a s) : stabX P ops k (a.put d v) s := by
  unfold stabX at h ⊢
  rw [hk] at h ⊢
  obtain ⟨dst, op, type, pos, after, guard⟩ := q
  split at h
  · rename_i d' t x _ _ _ e
    cases e
    rw [ev_put a fun t ht => by have := uses_op (h1 t ht); simpa [Op.operands] using this, t_put_ne (fun e => h2 _ e rfl)]
    unfold loadX at h ⊢
    rw [l_put]
    exact h
  · exact h.elim

theorem stab_put {q : Oper} {k : Nat} {a : A} {d : Option Tmp} {v : Value} (hk : ops[k]? = some q) (h1 : ∀ t, d = some t → uses (gOf ops) q t = false) (h2 : ∀ t, d = some t → q.dst ≠ some t)
    (h : stabX P ops k (a.put d v) s) : stabX P ops k a s := by
  unfold stabX at h ⊢
  rw [hk] at h ⊢
  obtain ⟨dst, op, type, pos, after, guard⟩ := q
  split at h
  · rename_i d' t x _ _ _ e
    cases e
    rw [ev_put a fun t ht => by have := uses_op (h1 t ht); simpa [Op.operands] using this, t_put_ne (fun e => h2 _ e rfl)] at h
    unfold loadX at h ⊢
    rw [l_put] at h
    exact h
  · exact h.elim
end
end Go.Proofs.Ytbcjgolkcfdnfaa.Sim
