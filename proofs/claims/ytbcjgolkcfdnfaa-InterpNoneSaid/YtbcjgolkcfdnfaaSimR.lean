import Derived.Test.YtbcjgolkcfdnfaaSimQ
/- Sim, eighteenth text: the abstract machine run by a program (for closed runs, in the kernel). Definitions; no condition. -/
noncomputable section
namespace Go.Proofs.Ytbcjgolkcfdnfaa.Sim
open Go

/-! ### Finite tables -/
inductive Tr (α : Type) where
  | nil
  | node (v : Option α) (l r : Tr α)

section
variable {α : Type}
def Tr.get (t : Tr α) : Nat → Option α :=
  Tr.rec (motive := fun _ => Nat → Option α) (fun _ => none) (fun v _ _ gl gr i => Bool.rec (Bool.rec (gr (Nat.sub (Nat.div i 2) 1)) (gl (Nat.div i 2)) (Nat.beq (Nat.mod i 2) 1)) v (Nat.beq i 0)) t
def Tr.setF (n : Nat) : Tr α → Nat → Option α → Tr α :=
  Nat.rec (motive := fun _ => Tr α → Nat → Option α → Tr α) (fun t _ _ => t)
    (fun _ f t i v => Tr.rec (motive := fun _ => Tr α)
      (Bool.rec (Bool.rec (.node none .nil (f .nil (Nat.sub (Nat.div i 2) 1) v)) (.node none (f .nil (Nat.div i 2) v) .nil) (Nat.beq (Nat.mod i 2) 1)) (.node v .nil .nil) (Nat.beq i 0))
      (fun w l r _ _ => Bool.rec (Bool.rec (.node w l (f r (Nat.sub (Nat.div i 2) 1) v)) (.node w (f l (Nat.div i 2) v) r) (Nat.beq (Nat.mod i 2) 1)) (.node v l r) (Nat.beq i 0)) t) n
theorem Tr.get_node (v : Option α) (l r : Tr α) (i : Nat) : (Tr.node v l r).get i = cond (Nat.beq i 0) v (cond (Nat.beq (i % 2) 1) (l.get (i / 2)) (r.get (i / 2 - 1))) := by
  show (Bool.rec (Bool.rec _ _ (Nat.beq (i % 2) 1)) v (Nat.beq i 0) : Option α) = _
  cases Nat.beq i 0 <;> cases Nat.beq (i % 2) 1 <;> rfl
def Tr.set (t : Tr α) (i : Nat) (v : Option α) : Tr α := Tr.setF (i + 1) t i v

theorem Tr.get_nil (i : Nat) : (Tr.nil : Tr α).get i = none := rfl

theorem Tr.get_setF : ∀ (n : Nat) (t : Tr α) (i : Nat) (v : Option α) (j : Nat), i < n → (Tr.setF n t i v).get j = if j = i then v else t.get j
  | 0, _, _, _, _, h => by omega
  | n + 1, t, i, v, j, h => by
    have b0 : ∀ k : Nat, Nat.beq k 0 = decide (k = 0) := fun k => by cases k <;> rfl
    have b1 : ∀ k : Nat, Nat.beq (k % 2) 1 = decide (k % 2 = 1) := fun k => by
      rw [Bool.eq_iff_iff]; simp
    have ih := Tr.get_setF n
    have key : ∀ (w : Option α) (l r : Tr α) (t : Tr α), (∀ k, t.get k = (Tr.node w l r).get k) →
        Tr.setF (n + 1) t i v = cond (Nat.beq i 0) (.node v l r) (cond (Nat.beq (i % 2) 1) (.node w (Tr.setF n l (i / 2) v) r) (.node w l (Tr.setF n r (i / 2 - 1) v))) →
        (Tr.setF (n + 1) t i v).get j = if j = i then v else t.get j := by
      intro w l r t ht e
      rw [e, ht j]
      simp only [b0, b1]
      by_cases hi : i = 0
      · subst hi
        simp only [decide_true, cond_true, Tr.get_node, b0, b1]
        by_cases hj : j = 0
        · simp [hj]
        · simp [hj]
      · by_cases hp : i % 2 = 1
        · simp only [hi, decide_false, cond_false, hp, decide_true, cond_true, Tr.get_node, b0, b1]
          by_cases hj : j = 0
          · subst hj
            simp [Ne.symm hi]
          · by_cases hq : j % 2 = 1
            · simp only [hj, decide_false, cond_false, hq, decide_true, cond_true]
              rw [ih l (i / 2) v (j / 2) (by omega)]
              by_cases hij : j = i
              · subst hij; simp
              · rw [if_neg (by omega), if_neg hij]
            · simp only [hj, decide_false, cond_false, hq]
              rw [if_neg (by omega)]
        · simp only [hi, decide_false, cond_false, hp, Tr.get_node, b0, b1]
          by_cases hj : j = 0
          · subst hj
            simp [Ne.symm hi]
          · by_cases hq : j % 2 = 1
            · simp only [hj, decide_false, cond_false, hq, decide_true, cond_true]
              rw [if_neg (by omega)]
            · simp only [hj, decide_false, cond_false, hq]
              rw [ih r (i / 2 - 1) v (j / 2 - 1) (by omega)]
              by_cases hij : j = i
              · subst hij; simp
              · rw [if_neg (by omega), if_neg hij]
    cases t with
    | nil => exact key none .nil .nil .nil (fun k => by simp only [Tr.get_node, b0, b1]; cases decide (k = 0) <;> cases decide (k % 2 = 1) <;> rfl) (by
        show (Bool.rec (Bool.rec _ _ (Nat.beq (i % 2) 1)) _ (Nat.beq i 0) : Tr α) = _
        cases Nat.beq i 0 <;> cases Nat.beq (i % 2) 1 <;> rfl)
    | node w l r => exact key w l r _ (fun _ => rfl) (by
        show (Bool.rec (Bool.rec _ _ (Nat.beq (i % 2) 1)) _ (Nat.beq i 0) : Tr α) = _
        cases Nat.beq i 0 <;> cases Nat.beq (i % 2) 1 <;> rfl)

theorem Tr.get_set (t : Tr α) (i : Nat) (v : Option α) (j : Nat) : (t.set i v).get j = if j = i then v else t.get j := Tr.get_setF _ _ _ _ _ (Nat.lt_succ_self i)
end

/-! ### States -/
structure EA where
  t : Tr Value
  l : Tr (Nat × List Value)
  d : List Df

structure ES where
  heap : Tr Ob
  next : Nat
  dead : Tr Unit

def EA.toA (a : EA) : A := { t := fun i => (a.t.get i).getD undef, l := fun i => a.l.get i, d := a.d }
def ES.toSt (e : ES) : St := { heap := fun i => e.heap.get i, next := e.next, dead := fun i => (e.dead.get i).isSome }

def EA.put (a : EA) (dst : Option Tmp) (v : Value) : EA :=
  match dst with
  | some d => { a with t := a.t.set d (some v) }
  | none => a
def EA.bare (a : EA) : EA := { t := .nil, l := .nil, d := a.d }
def EA.loc (a : EA) (s v : Nat) (c : List Value) : EA := { a with l := a.l.set s (some (v, c)) }
def EA.ver (a : EA) (s : Nat) : Nat := match a.l.get s with | some (v, _) => v + 1 | none => 0

def ES.upd (e : ES) (i : Nat) (o : Ob) : ES := { e with heap := e.heap.set i (some o) }
def ES.new (e : ES) (o : Ob) : ES := { e with heap := e.heap.set e.next (some o), next := e.next + 1 }
def ES.del (e : ES) (i : Nat) : ES := { e with heap := e.heap.set i none }
def ES.bump (e : ES) : ES := { e with next := e.next + 1 }
def ES.kill (e : ES) (f : Nat) : ES := { e with dead := e.dead.set f (some ()) }
def ES.put (e : ES) (i : Nat) (c : List Value) : ES :=
  match e.heap.get i with
  | some (.arr _ f _ true) => ((e.kill f).bump).upd i (.arr c e.next true false)
  | some (.arr _ f _ false) => e.upd i (.arr c f true false)
  | _ => e.upd i (.var c)

theorem EA.put_toA (a : EA) (dst : Option Tmp) (v : Value) : (a.put dst v).toA = a.toA.put dst v := by
  cases dst with
  | none => rfl
  | some d =>
    refine A.ext' (fun i => ?_) (fun _ => rfl) rfl
    rw [t_put]
    show ((a.t.set d (some v)).get i).getD undef = _
    rw [Tr.get_set]
    by_cases h : i = d
    · simp [h]
    · simp [h]; rfl
theorem EA.bare_toA (a : EA) : a.bare.toA = a.toA.bare := rfl
theorem EA.loc_toA (a : EA) (s v : Nat) (c : List Value) : (a.loc s v c).toA = a.toA.loc s v c := by
  refine A.ext' (fun _ => rfl) (fun i => ?_) rfl
  show (a.l.set s (some (v, c))).get i = _
  rw [Tr.get_set]
  by_cases h : i = s
  · subst h; rw [if_pos rfl, loc_self]
  · rw [if_neg h, loc_ne _ _ _ h]; rfl
theorem EA.ver_toA (a : EA) (s : Nat) : a.toA.ver s = a.ver s := rfl

theorem St.ext' {s s' : St} (h1 : ∀ i, s.heap i = s'.heap i) (h2 : s.next = s'.next) (h3 : ∀ i, s.dead i = s'.dead i) : s = s' := by
  cases s; cases s'
  simp only at h1 h2 h3
  rw [funext h1, h2, funext h3]

theorem ES.upd_toSt (e : ES) (i : Nat) (o : Ob) : (e.upd i o).toSt = e.toSt.upd i o :=
  St.ext' (fun j => by
    show (e.heap.set i (some o)).get j = _
    rw [Tr.get_set]; rfl) rfl fun _ => rfl
theorem ES.new_toSt (e : ES) (o : Ob) : (e.new o).toSt = e.toSt.new o :=
  St.ext' (fun j => by
    show (e.heap.set e.next (some o)).get j = _
    rw [Tr.get_set]; rfl) rfl fun _ => rfl
theorem ES.del_toSt (e : ES) (i : Nat) : (e.del i).toSt = e.toSt.del i :=
  St.ext' (fun j => by
    show (e.heap.set i none).get j = _
    rw [Tr.get_set]; rfl) rfl fun _ => rfl
theorem ES.bump_toSt (e : ES) : e.bump.toSt = e.toSt.bump := rfl
theorem ES.kill_toSt (e : ES) (f : Nat) : (e.kill f).toSt = e.toSt.kill f :=
  St.ext' (fun _ => rfl) rfl fun j => by
    show ((e.dead.set f (some ())).get j).isSome = _
    rw [Tr.get_set]
    by_cases h : j = f
    · subst h; simp [St.kill]
    · simp [h, St.kill]; rfl
theorem ES.put_toSt (e : ES) (i : Nat) (c : List Value) : (e.put i c).toSt = e.toSt.put i c := by
  have hh : e.toSt.heap i = e.heap.get i := rfl
  unfold ES.put St.put
  rw [hh]
  cases e.heap.get i with
  | none => exact ES.upd_toSt ..
  | some o =>
    cases o with
    | arr c' f own kin =>
      cases kin with
      | true => simp only [ES.upd_toSt, ES.bump_toSt, ES.kill_toSt]; rfl
      | false => exact ES.upd_toSt ..
    | _ => exact ES.upd_toSt ..
end Go.Proofs.Ytbcjgolkcfdnfaa.Sim
