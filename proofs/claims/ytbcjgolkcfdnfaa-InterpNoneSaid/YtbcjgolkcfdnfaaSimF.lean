import Derived.Test.YtbcjgolkcfdnfaaSimEg
/- Sim, sixth text: what is known of calls, and of a running function; operations keep it. No condition. -/
namespace Go.Proofs.Ytbcjgolkcfdnfaa.Sim
open Go

def RtR (m : Mu) : Rt → Ending → Prop
  | .ret v, .returned v' => VR m v v'
  | .pan v, .panicked c => ∃ v', c = [{ v := v', recovered := false }] ∧ VR m v v'
  | _, _ => False

/-- What is known of a call: from every memory of the machine that the abstract one tells of it ends, and as it is said. -/
def CallsX (P : Program) (f : FuncId) (args : List Value) (s : St) (R : Rt → St → Prop) : Prop :=
  ∀ (pr : Pr) (m : Mu) (w : World) (args' : List Value), WR pr m s w → VRs m args args' →
    Calls P f args'.toArray w fun e w' => ∃ r s' m', RtR m' r e ∧ WR pr m' s' w' ∧ Ext m w.heap.size m' ∧ w.heap.size ≤ w'.heap.size ∧ R r s'

theorem CallsX.mono {P : Program} {f : FuncId} {args : List Value} {s : St} {R R' : Rt → St → Prop} (h : CallsX P f args s R) (hr : ∀ r s', R r s' → R' r s') : CallsX P f args s R' :=
  fun pr m w args' hw ha => (h pr m w args' hw ha).mono fun _ _ ⟨r, s', m', h1, h2, h3, h4, h5⟩ => ⟨r, s', m', h1, h2, h3, h4, hr _ _ h5⟩

inductive DR (m : Mu) : List Df → List Deferred → Prop
  | nil : DR m [] []
  | cons {d : Df} {args captured : Array Value} {l : List Df} {l' : List Deferred} (h : VRs m d.args (args.toList ++ captured.toList)) (t : DR m l l') :
      DR m (d :: l) ({ target := .fn (.func d.f) captured, args } :: l')
theorem DR.mono {m m' : Mu} (s : Sub m m') : ∀ {l : List Df} {l' : List Deferred}, DR m l l' → DR m' l l'
  | _, _, .nil => .nil
  | _, _, .cons h t => .cons (h.mono s) (t.mono s)

abbrev Lam := Nat → Nat → Option Nat

structure LR (pr : Pr) (m : Mu) (a : A) (lam : Lam) (w : World) : Prop where
  cur : ∀ s v c, a.l s = some (v, c) → ∃ b cu e, lam s v = some b ∧ w.heap[b]? = some (.cells cu e (0, 0)) ∧ VRs m c cu.toList ∧ (∀ u ∈ c, u.oneCell' = true)
  far : ∀ s v b, lam s v = some b → b < w.heap.size ∧ pr.blk b = none ∧ ∀ i p, m i = some p → p.b ≠ b
  old : ∀ s v b, lam s v = some b → v < a.ver s
  inj : ∀ s v c s' v' c' b, a.l s = some (v, c) → a.l s' = some (v', c') → lam s v = some b → lam s' v' = some b → s = s'

/-- A pointer to a variable that only the function knows. -/
def LV (lam : Lam) (x x' : Value) : Prop := ∃ s v off b, x = .pointer (some ⟨v, off, some s⟩) ∧ lam s v = some b ∧ x' = .pointer (some ⟨b, off, none⟩)

structure FR (pr : Pr) (loc : Nat → Bool) (n : Nat) (m : Mu) (lam : Lam) (a : A) (s : St) (aC : Act) (w : World) : Prop where
  wr : WR pr m s w
  lr : LR pr m a lam w
  sz : aC.tmps.size = n
  tm : ∀ i, loc i = false → VR m (a.t i) (aC.tmps.getD i undef)
  tl : ∀ i, loc i = true → VR m (a.t i) (aC.tmps.getD i undef) ∨ LV lam (a.t i) (aC.tmps.getD i undef)
  df : DR m a.d aC.defers

section
variable {P : Program} {pr : Pr} {loc : Nat → Bool} {n : Nat} {m : Mu} {lam : Lam} {a : A} {s : St} {aC : Act} {w : World}

theorem LR.congr {a a' : A} (h : LR pr m a lam w) (hl : a'.l = a.l) : LR pr m a' lam w where
  cur := fun t v c hc => h.cur t v c (by rw [← hl]; exact hc)
  far := h.far
  old := fun t v b hb => by have := h.old t v b hb; unfold A.ver at this ⊢; rw [hl]; exact this
  inj := fun t v c t' v' c' b h1 h2 => h.inj t v c t' v' c' b (by rw [← hl]; exact h1) (by rw [← hl]; exact h2)

theorem getD_put (aC : Act) (d : Tmp) (v : Value) (hd : d < aC.tmps.size) (i : Nat) :
    (aC.put (some d) v).tmps.getD i undef = if i = d then v else aC.tmps.getD i undef := by
  simp only [Act.put, Array.getD_eq_getD_getElem?]
  by_cases h : i = d
  · subst h; simp [hd]
  · rw [Array.getElem?_setIfInBounds_ne (fun e => h e.symm), if_neg h]

theorem t_put (a : A) (d : Tmp) (v : Value) (i : Nat) : (a.put (some d) v).t i = if i = d then v else a.t i := by
  simp only [A.put]
  by_cases h : i = d
  · subst h; simp
  · rw [if_neg h]
    cases hb : Nat.beq i d
    · rfl
    · exact absurd (Nat.eq_of_beq_eq_true hb) h

def dstOk (n : Nat) : Option Tmp → Bool
  | some d => Nat.blt d n
  | none => true

theorem FR.put (h : FR pr loc n m lam a s aC w) {dst : Option Tmp} (hd : dstOk n dst = true) {v v' : Value} (hv : VR m v v') : FR pr loc n m lam (a.put dst v) s (aC.put dst v') w := by
  cases dst with
  | none => exact h
  | some d =>
    have hlt : d < aC.tmps.size := by
      rw [h.sz]; exact Nat.le_of_ble_eq_true hd
    exact {
      wr := h.wr
      lr := h.lr.congr rfl
      sz := by simp [Act.put, h.sz]
      tm := fun i hi => by
        rw [getD_put aC d v' hlt, t_put]
        split
        · exact hv
        · exact h.tm i hi
      tl := fun i hi => by
        rw [getD_put aC d v' hlt, t_put]
        split
        · exact .inl hv
        · exact h.tl i hi
      df := h.df }

theorem FR.putL (h : FR pr loc n m lam a s aC w) {dst : Option Tmp} (hd : dstOk n dst = true) (hl : ∀ d, dst = some d → loc d = true) {v v' : Value} (hv : LV lam v v') : FR pr loc n m lam (a.put dst v) s (aC.put dst v') w := by
  cases dst with
  | none => exact h
  | some d =>
    have hlt : d < aC.tmps.size := by
      rw [h.sz]; exact Nat.le_of_ble_eq_true hd
    have hl := hl d rfl
    exact {
      wr := h.wr
      lr := h.lr.congr rfl
      sz := by simp [Act.put, h.sz]
      tm := fun i hi => by
        rw [getD_put aC d v' hlt, t_put]
        split
        · rename_i e; subst e; rw [hl] at hi; cases hi
        · exact h.tm i hi
      tl := fun i hi => by
        rw [getD_put aC d v' hlt, t_put]
        split
        · exact .inr hv
        · exact h.tl i hi
      df := h.df }

/-- A change of the machine's memory and of what is known of it. -/
theorem FR.world (h : FR pr loc n m lam a s aC w) {m' : Mu} {s' : St} {w' : World} (hs : Sub m m') (hw : WR pr m' s' w') (hsz : w.heap.size ≤ w'.heap.size)
    (hk : ∀ t v c b, a.l t = some (v, c) → lam t v = some b → w'.heap[b]? = w.heap[b]?) (hfar : ∀ t v b, lam t v = some b → ∀ i p, m' i = some p → p.b ≠ b) : FR pr loc n m' lam a s' aC w' where
  wr := hw
  lr := {
    cur := fun t v c hc => by
      obtain ⟨b, cu, e, h1, h2, h3, h4⟩ := h.lr.cur t v c hc
      exact ⟨b, cu, e, h1, (hk t v c b hc h1).trans h2, h3.mono hs, h4⟩
    far := fun t v b hb => by
      obtain ⟨h1, h2, _⟩ := h.lr.far t v b hb
      exact ⟨Nat.lt_of_lt_of_le h1 hsz, h2, hfar t v b hb⟩
    old := h.lr.old
    inj := h.lr.inj }
  sz := h.sz
  tm := fun i hi => (h.tm i hi).mono hs
  tl := fun i hi => (h.tl i hi).imp (fun h => h.mono hs) id
  df := h.df.mono hs

/-- An operand of the code: a slot that is there, a value without addresses, a function. -/
def opnd (n : Nat) (loc : Nat → Bool) (allow : Bool) : Operand → Bool
  | .tmp t => Nat.blt t n && (allow || !loc t)
  | .const v => flatB 6 v
  | .func _ => true
  | .global _ => false

theorem FR.ev (h : FR pr loc n m lam a s aC w) {x : Operand} (hx : opnd n loc false x = true) : VR m (a.ev x) (aC.eval x) := by
  cases x with
  | tmp t =>
    simp only [opnd, Bool.false_or, Bool.and_eq_true, Bool.not_eq_true'] at hx
    exact h.tm t hx.2
  | const v => exact .flat (Flat.of 6 v hx)
  | func f => exact .func .nil .nil
  | global g => simp [opnd] at hx

theorem FR.evL (h : FR pr loc n m lam a s aC w) {x : Operand} (hx : opnd n loc true x = true) : VR m (a.ev x) (aC.eval x) ∨ LV lam (a.ev x) (aC.eval x) ∧ ∃ t, x = .tmp t ∧ loc t = true := by
  cases x with
  | tmp t =>
    cases hl : loc t with
    | false => exact .inl (h.tm t hl)
    | true =>
      rcases h.tl t hl with h' | h'
      · exact .inl h'
      · exact .inr ⟨h', t, rfl, hl⟩
  | const v => exact .inl (.flat (Flat.of 6 v hx))
  | func f => exact .inl (.func .nil .nil)
  | global g => simp [opnd] at hx
end
end Go.Proofs.Ytbcjgolkcfdnfaa.Sim
