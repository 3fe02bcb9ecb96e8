import Derived.Test.YtbcjgolkcfdnfaaSimD
/- Sim, fifth text: how the abstract memory stands to the machine's, and what keeps that. No condition. -/
namespace Go.Proofs.Ytbcjgolkcfdnfaa.Sim
open Go

/-- What must stay as it is, and what never changes. -/
structure Pr where
  blk : Nat → Option Obj
  os : Os
  tape : Nat → Question → Nat
  out : Array (Nat × ByteArray)

/-- What is known of package variables: those of one number. -/
def globs (k : Nat) : Bool := Nat.beq k 0
def GL (pr : Pr) : Prop := ∀ k, globs k = true → ∃ c e fz n, pr.blk k = some (.cells c e fz) ∧ c[0]? = some (.int .i64 n)

/-- Entries of a map. -/
inductive ERs (m : Mu) : List En → List MapEntry → Prop
  | nil : ERs m [] []
  | cons {k v v' : Value} {b : Nat} {l : List En} {l' : List MapEntry} (h : VR m v v') (t : ERs m l l') : ERs m ((k, v, b) :: l) ({ key := k, val := v', born := b } :: l')
theorem ERs.mono {m m' : Mu} (s : Sub m m') : ∀ {l : List En} {l' : List MapEntry}, ERs m l l' → ERs m' l l'
  | _, _, .nil => .nil
  | _, _, .cons h t => .cons (h.mono s) (t.mono s)

/-- A map that is walked through. -/
def mapR (m : Mu) : Option Nat → Option Nat → Prop
  | none, y => y = none
  | some i, y => ∃ q, m i = some q ∧ y = some q.b
theorem mapR.mono {m m' : Mu} (s : Sub m m') : ∀ {x y : Option Nat}, mapR m x y → mapR m' x y
  | none, _, h => h
  | some _, _, ⟨q, h1, h2⟩ => ⟨q, s _ _ h1, h2⟩

def reads (s : St) : Ob → Bool
  | .arr _ f own _ => own || !s.dead f
  | _ => true
def writes : Ob → Bool
  | .arr _ _ own _ => own
  | _ => true

def obR (pr : Pr) (m : Mu) (w : World) : Ob → Pl → Prop
  | .var c, p => ∃ cur e, w.heap[p.b]? = some (.cells cur e (0, 0)) ∧ p.base = 0 ∧ p.top = cur.size ∧ VRs m c cur.toList ∧ (∀ v ∈ c, v.oneCell' = true) ∧ pr.blk p.b = none
  | .arr c _ own _, p => ∃ cur e fz, w.heap[p.b]? = some (.cells cur e fz) ∧ p.top = cur.size ∧ p.base + c.length ≤ cur.size ∧ VRs m c ((cur.toList.drop p.base).take c.length) ∧ (∀ v ∈ c, v.oneCell' = true) ∧
      (own = true → fz = (0, 0) ∧ pr.blk p.b = none)
  | .map es clock, p => ∃ es' : Array MapEntry, w.heap[p.b]? = some (.map es' clock) ∧ ERs m es es'.toList ∧ p.base = 0 ∧ pr.blk p.b = none
  | .iter x since seen last, p => ∃ x', w.heap[p.b]? = some (.mapIter x' since seen.toArray last) ∧ mapR m x x' ∧ p.base = 0 ∧ pr.blk p.b = none

/-- Two rows that share a block: an elder one of the family, which ends no later. -/
def shr : Ob → Pl → Ob → Pl → Prop
  | .arr c f true true, p, .arr cj fj false _, q => fj = f ∧ q.base + cj.length ≤ p.base + c.length
  | _, _, _, _ => False

structure WR (pr : Pr) (m : Mu) (s : St) (w : World) : Prop where
  os : w.os = pr.os
  tape : w.tape = pr.tape
  out : w.output = pr.out
  prot : ∀ k o, pr.blk k = some o → w.heap[k]? = some o
  lt : ∀ i p, m i = some p → p.b < w.heap.size
  nx : ∀ i, s.next ≤ i → m i = none ∧ s.heap i = none
  gl : GL pr
  nd : ∀ i, s.next ≤ i → s.dead i = false
  nf : ∀ i c f own kin, s.heap i = some (.arr c f own kin) → f < s.next
  ob : ∀ i o, s.heap i = some o → reads s o = true → ∃ p, m i = some p ∧ obR pr m w o p
  sep : ∀ i o p j oj q, s.heap i = some o → writes o = true → m i = some p → j ≠ i → s.heap j = some oj → reads s oj = true → m j = some q → q.b = p.b → shr o p oj q

theorem reads_of_writes {s : St} {o : Ob} (h : writes o = true) : reads s o = true := by
  cases o <;> simp_all [reads, writes]

theorem obR.mono {pr : Pr} {m m' : Mu} {w : World} (hs : Sub m m') : ∀ {o : Ob} {p : Pl}, obR pr m w o p → obR pr m' w o p
  | .var _, _, ⟨cur, e, h1, h2, h3, h4, h5⟩ => ⟨cur, e, h1, h2, h3, h4.mono hs, h5⟩
  | .arr .., _, ⟨cur, e, fz, h1, h2, h3, h4, h5⟩ => ⟨cur, e, fz, h1, h2, h3, h4.mono hs, h5⟩
  | .map _ _, _, ⟨es, h1, h2, h3⟩ => ⟨es, h1, h2.mono hs, h3⟩
  | .iter _ _ _ _, _, ⟨x, h1, h2, h3⟩ => ⟨x, h1, h2.mono hs, h3⟩

theorem obR.heap {pr : Pr} {m : Mu} {w w' : World} : ∀ {o : Ob} {p : Pl}, w'.heap[p.b]? = w.heap[p.b]? → obR pr m w o p → obR pr m w' o p
  | .var _, _, hk, ⟨cur, e, h1, h2⟩ => ⟨cur, e, hk.trans h1, h2⟩
  | .arr .., _, hk, ⟨cur, e, fz, h1, h2⟩ => ⟨cur, e, fz, hk.trans h1, h2⟩
  | .map _ _, _, hk, ⟨es, h1, h2⟩ => ⟨es, hk.trans h1, h2⟩
  | .iter _ _ _ _, _, hk, ⟨x, h1, h2⟩ => ⟨x, hk.trans h1, h2⟩

theorem obR.blk {pr : Pr} {m : Mu} {w : World} : ∀ {o : Ob} {p : Pl}, obR pr m w o p → writes o = true → pr.blk p.b = none
  | .var _, _, ⟨_, _, _, _, _, _, _, h⟩, _ => h
  | .arr .., _, ⟨_, _, _, _, _, _, _, _, h⟩, hw => (h hw).2
  | .map _ _, _, ⟨_, _, _, _, h⟩, _ => h
  | .iter _ _ _ _, _, ⟨_, _, _, _, h⟩, _ => h

theorem obR.obj {pr : Pr} {m : Mu} {w : World} : ∀ {o : Ob} {p : Pl}, obR pr m w o p → ∃ x, w.heap[p.b]? = some x
  | .var _, _, ⟨_, _, h, _⟩ => ⟨_, h⟩
  | .arr .., _, ⟨_, _, _, h, _⟩ => ⟨_, h⟩
  | .map _ _, _, ⟨_, h, _⟩ => ⟨_, h⟩
  | .iter _ _ _ _, _, ⟨_, h, _⟩ => ⟨_, h⟩

/-- The machine's memory may change where nothing that can be read stands, and nothing that must stay. -/
theorem WR.step {pr : Pr} {m : Mu} {s : St} {w w' : World} (h : WR pr m s w) (hos : w'.os = w.os) (htape : w'.tape = w.tape) (hout : w'.output = w.output) (hsz : w.heap.size ≤ w'.heap.size)
    (hk : ∀ k, k < w.heap.size → (pr.blk k ≠ none ∨ ∃ i p, m i = some p ∧ p.b = k) → w'.heap[k]? = w.heap[k]?) : WR pr m s w' where
  os := hos.trans h.os
  tape := htape.trans h.tape
  out := hout.trans h.out
  prot k o hb := by
    have h1 := h.prot k o hb
    rw [hk k (Array.getElem?_eq_some_iff.1 h1).1 (.inl (by rw [hb]; simp))]
    exact h1
  lt i p hp := Nat.lt_of_lt_of_le (h.lt i p hp) hsz
  nx := h.nx
  gl := h.gl
  nd := h.nd
  nf := h.nf
  ob i o ho hr := by
    obtain ⟨p, hp, hob⟩ := h.ob i o ho hr
    exact ⟨p, hp, hob.heap (hk p.b (h.lt i p hp) (.inr ⟨i, p, hp, rfl⟩))⟩
  sep := h.sep

theorem WR.drew {pr : Pr} {m : Mu} {s : St} {w : World} (h : WR pr m s w) (n : Nat) : WR pr m s { w with drawn := n } :=
  h.step rfl rfl rfl (Nat.le_refl _) (fun _ _ _ => rfl)

theorem heap_alloc (w : World) (o : Obj) (k : Nat) : ({ w with heap := w.heap.push o } : World).heap[k]? = if k = w.heap.size then some o else w.heap[k]? := by
  simp [Array.getElem?_push]

theorem WR.push {pr : Pr} {m : Mu} {s : St} {w : World} (h : WR pr m s w) (o : Obj) : WR pr m s { w with heap := w.heap.push o } :=
  h.step rfl rfl rfl (by simp) (fun k hk _ => by rw [heap_alloc, if_neg (by omega)])

def Mu.set (m : Mu) (i : Nat) (p : Pl) : Mu := fun j => if j = i then some p else m j
theorem Mu.set_self (m : Mu) (i : Nat) (p : Pl) : m.set i p i = some p := by simp [Mu.set]
theorem Mu.set_ne (m : Mu) {i j : Nat} (p : Pl) (h : j ≠ i) : m.set i p j = m j := by simp [Mu.set, h]
theorem Sub.set {m : Mu} {i : Nat} (h : m i = none) (p : Pl) : Sub m (m.set i p) := fun j q hq => by
  rw [Mu.set_ne]
  · exact hq
  · rintro rfl; rw [h] at hq; cases hq

/-- What is new of the places: new blocks, or blocks that were known. -/
def Ext (m0 : Mu) (z : Nat) (m : Mu) : Prop := Sub m0 m ∧ ∀ i p, m i = some p → m0 i = some p ∨ z ≤ p.b ∨ ∃ j q, m0 j = some q ∧ q.b = p.b
theorem Ext.refl (m : Mu) (z : Nat) : Ext m z m := ⟨Sub.refl m, fun _ _ h => .inl h⟩
theorem Ext.trans {m0 m1 m2 : Mu} {z z1 : Nat} (h : Ext m0 z m1) (h' : Ext m1 z1 m2) (hz : z ≤ z1) : Ext m0 z m2 := by
  refine ⟨h.1.trans h'.1, fun i p hp => ?_⟩
  rcases h'.2 i p hp with h1 | h1 | ⟨j, q, hq, hb⟩
  · exact h.2 i p h1
  · exact .inr (.inl (Nat.le_trans hz h1))
  · rcases h.2 j q hq with h2 | h2 | ⟨j', q', hq', hb'⟩
    · exact .inr (.inr ⟨j, q, h2, hb⟩)
    · exact .inr (.inl (hb ▸ h2))
    · exact .inr (.inr ⟨j', q', hq', hb'.trans hb⟩)
theorem Ext.set {m0 m : Mu} {z i : Nat} (h : Ext m0 z m) (hi : m i = none) (p : Pl) (hp : z ≤ p.b ∨ ∃ j q, m j = some q ∧ q.b = p.b) : Ext m0 z (m.set i p) := by
  refine ⟨h.1.trans (Sub.set hi p), fun j q hq => ?_⟩
  by_cases hj : j = i
  · subst hj
    rw [Mu.set_self] at hq; cases hq
    rcases hp with hp | ⟨k, q, hk, hb⟩
    · exact .inr (.inl hp)
    · rcases h.2 k q hk with h2 | h2 | ⟨j', q', hq', hb'⟩
      · exact .inr (.inr ⟨k, q, h2, hb⟩)
      · exact .inr (.inl (hb ▸ h2))
      · exact .inr (.inr ⟨j', q', hq', hb'.trans hb⟩)
  · rw [Mu.set_ne _ _ hj] at hq
    exact h.2 j q hq

theorem reads_new (s : St) (o x : Ob) : reads (s.new o) x = reads s x := by cases x <;> rfl

/-- A new object in a new block. -/
theorem WR.new {pr : Pr} {m : Mu} {s : St} {w : World} (h : WR pr m s w) (o : Ob) (x : Obj) (p : Pl) (hb : p.b = w.heap.size)
    (ho : obR pr (m.set s.next p) { w with heap := w.heap.push x } o p) (hf : ∀ c f own kin, o = .arr c f own kin → f < s.next + 1) :
    WR pr (m.set s.next p) (s.new o) { w with heap := w.heap.push x } := by
  have hn := (h.nx s.next (Nat.le_refl _)).1
  have hs : Sub m (m.set s.next p) := Sub.set hn p
  have hpush := h.push x
  have old : ∀ j oj, (s.new o).heap j = some oj → j = s.next ∧ oj = o ∨ j ≠ s.next ∧ s.heap j = some oj := fun j oj hj => by
    simp only [St.new] at hj
    split at hj
    · left; exact ⟨‹_›, (by simpa using hj.symm)⟩
    · right; exact ⟨‹_›, hj⟩
  have far : ∀ j q, j ≠ s.next → (m.set s.next p) j = some q → q.b < w.heap.size := fun j q hj hq => by
    rw [Mu.set_ne _ _ hj] at hq
    exact h.lt j q hq
  exact {
    os := h.os
    tape := h.tape
    out := h.out
    prot := hpush.prot
    lt := fun i q hq => by
      by_cases hi : i = s.next
      · subst hi; rw [Mu.set_self] at hq; cases hq; simp [hb]
      · have := far i q hi hq; simp; omega
    nx := fun i hi => by
      have hi : s.next + 1 ≤ i := hi
      have := h.nx i (by omega)
      refine ⟨by rw [Mu.set_ne _ _ (by omega)]; exact this.1, ?_⟩
      simp only [St.new]; rw [if_neg (by omega)]; exact this.2
    gl := h.gl
    nd := fun i hi => by
      have hi : s.next + 1 ≤ i := hi
      exact h.nd i (by omega)
    nf := fun i c f own kin hi => by
      rcases old i _ hi with ⟨_, e⟩ | ⟨_, e⟩
      · exact hf c f own kin e.symm
      · exact Nat.lt_succ_of_lt (h.nf i c f own kin e)
    ob := fun i oi hi hr => by
      rcases old i _ hi with ⟨rfl, rfl⟩ | ⟨hne, e⟩
      · exact ⟨p, Mu.set_self .., ho⟩
      · obtain ⟨q, hq, hob⟩ := hpush.ob i oi e ((reads_new s o oi).symm.trans hr)
        exact ⟨q, hs i q hq, hob.mono hs⟩
    sep := fun i oi pi j oj q hi hw hpi hji hj hr hq hqb => by
      rcases old i _ hi with ⟨rfl, rfl⟩ | ⟨hne, e⟩
      · rw [Mu.set_self] at hpi; cases hpi
        have := far j q hji hq
        omega
      · rcases old j _ hj with ⟨rfl, rfl⟩ | ⟨hne', e'⟩
        · rw [Mu.set_self] at hq; cases hq
          have := far i pi hne hpi
          omega
        · rw [Mu.set_ne _ _ hne] at hpi
          rw [Mu.set_ne _ _ hne'] at hq
          exact h.sep i oi pi j oj q e hw hpi hji e' ((reads_new s o oj).symm.trans hr) hq hqb }

/-- What is read of the abstract memory lies in the machine's. -/
theorem WR.rd {pr : Pr} {m : Mu} {s : St} {w : World} (h : WR pr m s w) {i off n : Nat} {vs : List Value} (hr : s.rd i off n = some vs) :
    ∃ p vs', m i = some p ∧ VRs m vs vs' ∧ (∀ v ∈ vs, v.oneCell' = true) ∧ vs.length = n ∧ w.rangeAt p.b (p.base + off) vs' ∧ p.base + off + n ≤ p.top := by
  unfold St.rd at hr
  cases hrow : s.row i with
  | none => simp [hrow] at hr
  | some c =>
  simp only [hrow, Option.bind_some] at hr
  obtain ⟨hl, rfl⟩ := Sub_of_sub hr
  have key : ∀ (p : Pl) (cur : Array Value) (e : TypeId) (fz : Nat × Nat), m i = some p → w.heap[p.b]? = some (.cells cur e fz) → p.top = cur.size → p.base + c.length ≤ cur.size →
      VRs m c ((cur.toList.drop p.base).take c.length) → (∀ v ∈ c, v.oneCell' = true) → ∃ p vs', m i = some p ∧ VRs m ((c.drop off).take n) vs' ∧ (∀ v ∈ (c.drop off).take n, v.oneCell' = true) ∧ ((c.drop off).take n).length = n ∧ w.rangeAt p.b (p.base + off) vs' ∧ p.base + off + n ≤ p.top := by
    intro p cur e fz hp hb ht hle hv h1
    refine ⟨p, (((cur.toList.drop p.base).take c.length).drop off).take n, hp, (hv.drop off).take n, fun v hv => h1 v (List.mem_of_mem_drop (List.mem_of_mem_take hv)), by rw [List.length_take, List.length_drop]; omega, ?_, by omega⟩
    intro j v hj
    rw [List.getElem?_take, List.getElem?_drop, List.getElem?_take, List.getElem?_drop] at hj
    split at hj
    · split at hj
      · have : w.cell? ⟨p.b, p.base + off + j, none⟩ = cur[p.base + off + j]? := by simp [World.cell?, hb]
        rw [this, ← Array.getElem?_toList, Nat.add_assoc]
        exact hj
      · simp at hj
    · simp at hj
  unfold St.row at hrow
  split at hrow
  · rename_i c' ho
    cases hrow
    obtain ⟨p, hp, cur, e, hb, h0, ht, hv, h1, _⟩ := h.ob i _ ho rfl
    have hlen := hv.len
    refine key p cur e (0, 0) hp hb ht (by rw [h0]; simp at hlen; omega) ?_ h1
    rw [h0, List.drop_zero, hlen, List.take_length]
    exact hv
  · rename_i c' f own kin ho
    split at hrow
    · cases hrow
      rename_i hown
      obtain ⟨p, hp, cur, e, fz, hb, ht, hle, hv, h1, _⟩ := h.ob i _ ho hown
      exact key p cur e fz hp hb ht hle hv h1
    · simp at hrow
  · simp at hrow

/-- What is written of the abstract memory may be written in the machine's. -/
theorem WR.own {pr : Pr} {m : Mu} {s : St} {w : World} (h : WR pr m s w) {i : Nat} {c : List Value} (ho : s.own i = some c) :
    ∃ o p cur e, s.heap i = some o ∧ writes o = true ∧ m i = some p ∧ w.heap[p.b]? = some (.cells cur e (0, 0)) ∧ p.top = cur.size ∧ p.base + c.length ≤ cur.size ∧ VRs m c ((cur.toList.drop p.base).take c.length) ∧ (∀ v ∈ c, v.oneCell' = true) ∧ pr.blk p.b = none ∧
      (o = .var c ∧ p.base = 0 ∧ c.length = cur.size ∨ ∃ f kin, o = .arr c f true kin) := by
  unfold St.own at ho
  split at ho
  · rename_i c' hi
    cases ho
    obtain ⟨p, hp, cur, e, hb, h0, ht, hv, h1, hpr⟩ := h.ob i _ hi rfl
    have hlen := hv.len
    refine ⟨_, p, cur, e, hi, rfl, hp, hb, ht, by rw [h0]; simp at hlen; omega, ?_, h1, hpr, .inl ⟨rfl, h0, by simpa using hlen⟩⟩
    rw [h0, List.drop_zero, hlen, List.take_length]
    exact hv
  · rename_i c' f kin hi
    cases ho
    obtain ⟨p, hp, cur, e, fz, hb, ht, hle, hv, h1, hpr⟩ := h.ob i _ hi rfl
    obtain ⟨hfz, hb0⟩ := hpr rfl
    subst hfz
    exact ⟨_, p, cur, e, hi, rfl, hp, hb, ht, hle, hv, h1, hb0, .inr ⟨f, kin, rfl⟩⟩
  · simp at ho

/-! ### Cells that are set one behind the other -/
theorem setCells_os (b : Nat) : ∀ (vs : List Value) (o : Nat) (w : World), (w.setCells b o vs).os = w.os ∧ (w.setCells b o vs).tape = w.tape ∧ (w.setCells b o vs).output = w.output ∧ (w.setCells b o vs).heap.size = w.heap.size
  | [], _, _ => ⟨rfl, rfl, rfl, rfl⟩
  | v :: r, o, w => by
    have := setCells_os b r (o + 1) (w.setCell ⟨b, o, none⟩ v)
    rw [World.setCells]
    refine ⟨this.1, this.2.1, this.2.2.1, this.2.2.2.trans ?_⟩
    simp [World.setCell]
theorem setCell_ne (w : World) (b o : Nat) (v : Value) {k : Nat} (h : k ≠ b) : (w.setCell ⟨b, o, none⟩ v).heap[k]? = w.heap[k]? := by
  simp [World.setCell, Array.getElem?_modify, h.symm]
theorem setCells_ne (b : Nat) {k : Nat} (h : k ≠ b) : ∀ (vs : List Value) (o : Nat) (w : World), (w.setCells b o vs).heap[k]? = w.heap[k]?
  | [], _, _ => rfl
  | v :: r, o, w => by rw [World.setCells, setCells_ne b h r (o + 1), setCell_ne w b o v h]
theorem setCell_self (w : World) (b o : Nat) (v : Value) {cur : Array Value} {e : TypeId} {fz : Nat × Nat} (h : w.heap[b]? = some (.cells cur e fz)) :
    (w.setCell ⟨b, o, none⟩ v).heap[b]? = some (.cells (cur.setIfInBounds o v) e fz) := by
  simp [World.setCell, Array.getElem?_modify, h]
theorem setCells_self (b : Nat) {e : TypeId} {fz : Nat × Nat} : ∀ (vs : List Value) (o : Nat) (w : World) (cur : Array Value), w.heap[b]? = some (.cells cur e fz) → o + vs.length ≤ cur.size →
    ∃ cur', (w.setCells b o vs).heap[b]? = some (.cells cur' e fz) ∧ cur'.toList = cur.toList.take o ++ (vs ++ cur.toList.drop (o + vs.length))
  | [], o, w, cur, h, _ => ⟨cur, h, by simp⟩
  | v :: r, o, w, cur, h, hl => by
    have hl' : o + (r.length + 1) ≤ cur.size := by simpa using hl
    obtain ⟨cur', h1, h2⟩ := setCells_self b r (o + 1) (w.setCell ⟨b, o, none⟩ v) _ (setCell_self w b o v h) (by simp; omega)
    refine ⟨cur', by rw [World.setCells]; exact h1, ?_⟩
    rw [h2, Array.toList_setIfInBounds, List.take_add_one, List.take_set_of_le (Nat.le_refl _), List.drop_set_of_lt (by omega)]
    have ho : o < cur.toList.length := by simp; omega
    rw [List.getElem?_set_self ho]
    simp only [Option.toList_some, List.append_assoc, List.cons_append, List.nil_append, List.length_cons]
    congr 4
    omega

theorem splice_drop {cur : List Value} {base off len : Nat} {vs' : List Value} (h1 : base + len ≤ cur.length) (h2 : off + vs'.length ≤ len) :
    ((cur.take (base + off) ++ (vs' ++ cur.drop (base + off + vs'.length))).drop base).take len =
      ((cur.drop base).take len).take off ++ (vs' ++ ((cur.drop base).take len).drop (off + vs'.length)) := by
  rw [List.drop_append_of_le_length (by rw [List.length_take]; omega), List.drop_take, List.take_append, List.take_append, List.take_take, List.drop_take, List.take_take, List.drop_drop]
  have e1 : base + off - base = off := by omega
  rw [e1]
  have l1 : (List.take off (List.drop base cur)).length = off := by rw [List.length_take, List.length_drop]; omega
  rw [l1, Nat.min_eq_right (by omega), Nat.min_eq_left (by omega)]
  congr 1
  rw [List.take_of_length_le (by omega)]
  congr 1
  rw [show base + off + vs'.length = base + (off + vs'.length) from by omega]
  congr 1
  omega

theorem reads_put {s : St} {i : Nat} {c' : List Value} {x : Ob} (h : reads (s.put i c') x = true) : reads s x = true := by
  cases x with
  | arr c f own kin =>
    simp only [reads, Bool.or_eq_true, Bool.not_eq_true'] at h ⊢
    refine h.imp id fun h => ?_
    unfold St.put at h
    split at h
    · rename_i fo _ _
      simp only [St.upd, St.bump, St.kill] at h
      split at h
      · cases h
      · exact h
    · exact h
    · exact h
  | _ => rfl

/-- A store. -/
theorem WR.store {pr : Pr} {m : Mu} {s : St} {w : World} (h : WR pr m s w) {i off : Nat} {c c' vs vs' : List Value} (ho : s.own i = some c) (hs : spl c off vs = some c')
    (hv : VRs m vs vs') (h1 : ∀ v ∈ vs, v.oneCell' = true) :
    ∃ p, m i = some p ∧ w.there p.b (p.base + off) vs'.length ∧ WR pr m (s.put i c') (w.setCells p.b (p.base + off) vs') := by
  obtain ⟨o, p, cur, e, hi, hw, hp, hb, ht, hle, hvc, hc1, hpr, hcase⟩ := h.own ho
  obtain ⟨hl, rfl⟩ := of_spl hs
  have hlv := hv.len
  refine ⟨p, hp, ?_, ?_⟩
  · intro j hj
    have hlt : p.base + off + j < cur.size := by omega
    simp [World.cell?, World.frozen?, hb, hlt]
  obtain ⟨cur', hb', hcur'⟩ := setCells_self p.b (e := e) (fz := (0, 0)) vs' (p.base + off) w cur hb (by omega)
  obtain ⟨q1, q2, q3, q4⟩ := setCells_os p.b vs' (p.base + off) w
  have hne : ∀ k, k ≠ p.b → (w.setCells p.b (p.base + off) vs').heap[k]? = w.heap[k]? := fun k hk => setCells_ne p.b hk vs' _ w
  have hsz : cur'.size = cur.size := by
    have := congrArg List.length hcur'
    simp at this
    omega
  -- who else can be read in this block
  have alone : ∀ j oj q, j ≠ i → s.heap j = some oj → reads (s.put i (c.take off ++ (vs ++ c.drop (off + vs.length)))) oj = true → m j = some q → q.b ≠ p.b := by
    intro j oj q hj hoj hr hq hqb
    have hsh := h.sep i o p j oj q hi hw hp hj hoj (reads_put hr) hq hqb
    rcases hcase with ⟨rfl, _⟩ | ⟨f, kin, rfl⟩
    · simp [shr] at hsh
    · cases kin
      · simp [shr] at hsh
      · cases oj with
        | arr cj fj own kj =>
          cases own
          · simp only [shr] at hsh
            obtain ⟨rfl, _⟩ := hsh
            simp [reads, St.put, hi, St.upd, St.bump, St.kill] at hr
          · simp [shr] at hsh
        | _ => simp [shr] at hsh
  have content : VRs m (c.take off ++ (vs ++ c.drop (off + vs.length))) ((cur'.toList.drop p.base).take c.length) := by
    rw [hcur', splice_drop (by simpa using hle) (by omega), ← hlv]
    exact (hvc.take off).app (hv.app (hvc.drop _))
  have ones : ∀ v ∈ c.take off ++ (vs ++ c.drop (off + vs.length)), v.oneCell' = true := by
    intro v hv
    rw [List.mem_append, List.mem_append] at hv
    rcases hv with hv | hv | hv
    · exact hc1 v (List.mem_of_mem_take hv)
    · exact h1 v hv
    · exact hc1 v (List.mem_of_mem_drop hv)
  have hlen : (c.take off ++ (vs ++ c.drop (off + vs.length))).length = c.length := by simp; omega
  have hother : ∀ j, j ≠ i → (s.put i (c.take off ++ (vs ++ c.drop (off + vs.length)))).heap j = s.heap j := by
    intro j hj
    unfold St.put
    split <;> simp [St.upd, St.bump, St.kill, hj]
  have hself : ∃ o', (s.put i (c.take off ++ (vs ++ c.drop (off + vs.length)))).heap i = some o' ∧ obR pr m (w.setCells p.b (p.base + off) vs') o' p ∧ (∀ d f own kin, o' = .arr d f own kin → f < (s.put i (c.take off ++ (vs ++ c.drop (off + vs.length)))).next) := by
    rcases hcase with ⟨rfl, hbase, hcl⟩ | ⟨f, kin, rfl⟩
    · refine ⟨.var _, by simp [St.put, hi, St.upd], ⟨cur', e, hb', hbase, ht.trans hsz.symm, ?_, ones, hpr⟩, fun _ _ _ _ h => by cases h⟩
      have := content
      rw [hbase, List.drop_zero, hcl, ← hsz, ← Array.length_toList, List.take_length] at this
      exact this
    · have hf := h.nf i _ _ _ _ hi
      cases kin
      · refine ⟨.arr _ f true false, by simp [St.put, hi, St.upd], ⟨cur', e, (0, 0), hb', ht.trans hsz.symm, by omega, by rw [hlen]; exact content, ones, fun _ => ⟨rfl, hpr⟩⟩, fun _ _ _ _ h => by cases h; simpa [St.put, hi, St.upd] using hf⟩
      · refine ⟨.arr _ s.next true false, by simp [St.put, hi, St.upd], ⟨cur', e, (0, 0), hb', ht.trans hsz.symm, by omega, by rw [hlen]; exact content, ones, fun _ => ⟨rfl, hpr⟩⟩, fun _ _ _ _ h => by cases h; simp [St.put, hi, St.upd, St.bump, St.kill]⟩
  obtain ⟨o', ho', hob', hf'⟩ := hself
  have hnext : s.next ≤ (s.put i (c.take off ++ (vs ++ c.drop (off + vs.length)))).next := by
    unfold St.put
    split <;> simp [St.upd, St.bump, St.kill]
  have hdead : ∀ f, (s.put i (c.take off ++ (vs ++ c.drop (off + vs.length)))).next ≤ f → (s.put i (c.take off ++ (vs ++ c.drop (off + vs.length)))).dead f = false := by
    intro f hf
    have h0 := h.nd f (Nat.le_trans hnext hf)
    unfold St.put
    split
    · rename_i fo _ hio
      simp only [St.upd, St.bump, St.kill]
      have := h.nf i _ _ _ _ hio
      rw [if_neg (by omega)]
      exact h0
    · exact h0
    · exact h0
  exact {
    os := q1.trans h.os
    tape := q2.trans h.tape
    out := q3.trans h.out
    prot := fun k o hk => by
      rw [hne k (by rintro rfl; rw [hpr] at hk; cases hk)]
      exact h.prot k o hk
    lt := fun j q hq => by rw [q4]; exact h.lt j q hq
    nx := fun j hj => by
      have := h.nx j (Nat.le_trans hnext hj)
      refine ⟨this.1, ?_⟩
      rw [hother j (by rintro rfl; rw [hp] at this; cases this.1)]
      exact this.2
    gl := h.gl
    nd := hdead
    nf := fun j cj f own kin hj => by
      by_cases hji : j = i
      · subst hji; rw [ho'] at hj; exact hf' _ _ _ _ (Option.some.inj hj)
      · rw [hother j hji] at hj
        exact Nat.lt_of_lt_of_le (h.nf j cj f own kin hj) hnext
    ob := fun j oj hj hr => by
      by_cases hji : j = i
      · subst hji; rw [ho'] at hj; cases hj; exact ⟨p, hp, hob'⟩
      · rw [hother j hji] at hj
        obtain ⟨q, hq, hobq⟩ := h.ob j oj hj (reads_put hr)
        exact ⟨q, hq, hobq.heap (hne q.b (alone j oj q hji hj hr hq))⟩
    sep := fun j oj q k ok qk hj hwj hq hkj hk hrk hqk hqb => by
      by_cases hji : j = i
      · subst hji
        rw [hp] at hq; cases hq
        rw [hother k hkj] at hk
        exact absurd hqb (alone k ok qk hkj hk hrk hqk)
      · rw [hother j hji] at hj
        by_cases hki : k = i
        · subst hki
          rw [hp] at hqk; cases hqk
          have hsh := h.sep j oj q k o p hj hwj hq hkj hi (reads_of_writes hw) hp hqb
          rcases hcase with ⟨rfl, _⟩ | ⟨f, kin, rfl⟩
          · cases oj with
            | arr _ _ own kin => cases own <;> cases kin <;> simp [shr] at hsh
            | _ => simp [shr] at hsh
          · cases oj with
            | arr _ _ own kin => cases own <;> cases kin <;> simp [shr] at hsh
            | _ => simp [shr] at hsh
        · rw [hother k hki] at hk
          exact h.sep j oj q k ok qk hj hwj hq hkj hk (reads_put hrk) hqk hqb }
end Go.Proofs.Ytbcjgolkcfdnfaa.Sim
