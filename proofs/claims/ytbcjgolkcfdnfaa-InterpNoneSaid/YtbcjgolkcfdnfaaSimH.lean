import Derived.Test.YtbcjgolkcfdnfaaSimG
/- Sim, eighth text: new variables, calls, and operations in a row. No condition. -/
namespace Go.Proofs.Ytbcjgolkcfdnfaa.Sim
open Go
section
variable {P : Program} {pr : Pr} {loc : Nat → Bool} {n : Nat} {m m0 : Mu} {z : Nat} {lam : Lam} {a : A} {s : St} {aC : Act} {w : World} {esc : List Nat}

/-- A new variable of the function's own. -/
theorem FR.newLoc (h : FR pr loc n m lam a s aC w) (d : Nat) {c c' : List Value} (cu : Array Value) (e : TypeId) (hcu : cu.toList = c') (hv : VRs m c c') (h1 : ∀ u ∈ c, u.oneCell' = true) :
    ∃ lam', FR pr loc n m lam' (a.loc d (a.ver d) c) s aC { w with heap := w.heap.push (.cells cu e) } ∧ lam' d (a.ver d) = some w.heap.size := by
  have hfresh : ∀ b, lam d (a.ver d) ≠ some b := fun b hb => Nat.lt_irrefl _ (h.lr.old d _ b hb)
  refine ⟨fun t v => if t = d ∧ v = a.ver d then some w.heap.size else lam t v, ?_, by simp⟩
  have hold : ∀ t v b, lam t v = some b → (if t = d ∧ v = a.ver d then some w.heap.size else lam t v) = some b := fun t v b hb => by
    rw [if_neg]
    · exact hb
    · rintro ⟨rfl, rfl⟩; exact hfresh b hb
  exact {
    wr := h.wr.push _
    lr := {
      cur := fun t v c2 hc => by
        by_cases htd : t = d
        · subst htd
          rw [loc_self] at hc; cases hc
          refine ⟨w.heap.size, cu, e, by simp, ?_, by rw [hcu]; exact hv, h1⟩
          rw [heap_alloc]; simp
        · rw [loc_ne _ _ _ htd] at hc
          obtain ⟨b, cu2, e2, k1, k2, k3⟩ := h.lr.cur t v c2 hc
          refine ⟨b, cu2, e2, hold t v b k1, ?_, k3⟩
          rw [heap_alloc, if_neg (Nat.ne_of_lt (h.lr.far t v b k1).1)]
          exact k2
      far := fun t v b hb => by
        split at hb
        · cases hb
          refine ⟨by simp, ?_, fun i p hp => Nat.ne_of_lt (h.wr.lt i p hp)⟩
          cases hpr : pr.blk w.heap.size with
          | none => rfl
          | some o =>
            have := h.wr.prot _ o hpr
            simp at this
        · obtain ⟨k1, k2, k3⟩ := h.lr.far t v b hb
          exact ⟨by simp; omega, k2, k3⟩
      old := fun t v b hb => by
        unfold A.ver
        split at hb
        · rename_i he
          obtain ⟨rfl, rfl⟩ := he
          rw [loc_self]
          exact Nat.lt_succ_self _
        · have := h.lr.old t v b hb
          by_cases htd : t = d
          · subst htd; rw [loc_self]; exact Nat.lt_succ_of_lt this
          · rw [loc_ne _ _ _ htd]; exact this
      inj := fun t v c1 t' v' c2 b k1 k2 k3 k4 => by
        by_cases htd : t = d
        · by_cases htd' : t' = d
          · exact htd.trans htd'.symm
          · subst htd
            rw [loc_self] at k1; cases k1
            rw [if_pos ⟨rfl, rfl⟩] at k3; cases k3
            rw [if_neg (fun e => htd' e.1)] at k4
            have := (h.lr.far t' v' _ k4).1
            omega
        · rw [loc_ne _ _ _ htd] at k1
          rw [if_neg (fun e => htd e.1)] at k3
          by_cases htd' : t' = d
          · subst htd'
            rw [loc_self] at k2; cases k2
            rw [if_pos ⟨rfl, rfl⟩] at k4; cases k4
            have := (h.lr.far t v _ k3).1
            omega
          · rw [loc_ne _ _ _ htd'] at k2
            rw [if_neg (fun e => htd' e.1)] at k4
            exact h.lr.inj t v c1 t' v' c2 b k1 k2 k3 k4 }
    sz := h.sz
    tm := h.tm
    tl := fun i hi => (h.tl i hi).imp id fun ⟨t, v, off, b, e1, e2, e3⟩ => ⟨t, v, off, b, e1, hold t v b e2, e3⟩
    df := h.df }

/-- A new object of the abstract memory, in a new block. -/
theorem FR.newOb (h : FR pr loc n m lam a s aC w) (o : Ob) (x : Obj) (p : Pl) (hb : p.b = w.heap.size)
    (ho : obR pr (m.set s.next p) { w with heap := w.heap.push x } o p) (hf : ∀ c f own kin, o = .arr c f own kin → f < s.next + 1) :
    FR pr loc n (m.set s.next p) lam a (s.new o) aC { w with heap := w.heap.push x } := by
  refine h.world (Sub.set (h.wr.nx _ (Nat.le_refl _)).1 p) (h.wr.new o x p hb ho hf) (by simp) ?_ ?_
  · intro t v c b _ hlam
    rw [heap_alloc, if_neg (Nat.ne_of_lt (h.lr.far t v b hlam).1)]
  · intro t v b hlam i q hq
    by_cases hi : i = s.next
    · subst hi; rw [Mu.set_self] at hq; cases hq
      have := (h.lr.far t v b hlam).1
      omega
    · rw [Mu.set_ne _ _ hi] at hq
      exact (h.lr.far t v b hlam).2.2 i q hq

theorem WR.fresh (h : WR pr m s w) : pr.blk w.heap.size = none := by
  cases hpr : pr.blk w.heap.size with
  | none => rfl
  | some o =>
    have := h.prot _ o hpr
    simp at this

/-- A new variable. -/
theorem alloc_sound (h : FR pr loc n m lam a s aC w) (hx : Ext m0 z m) (hz : z ≤ w.heap.size) {dst : Option Tmp} (hd : dstOk n dst = true) (hok : allocOk esc loc dst = true) {c : List Value} (cu : Array Value) (e : TypeId) (hv : VRs m c cu.toList)
    (h1 : ∀ u ∈ c, u.oneCell' = true) {K : A → St → Prop} (hk : allocX esc dst c K a s) :
    Up pr loc n m0 z K (aC.put dst (.pointer (some ⟨w.heap.size, 0, none⟩))) { w with heap := w.heap.push (.cells cu e) } := by
  unfold allocX at hk
  cases dst with
  | none => exact hk.elim
  | some d =>
    simp only at hk
    cases hesc : esc.contains d with
    | true =>
      simp only [hesc, cond_true] at hk
      have hs : Sub m (m.set s.next ⟨w.heap.size, 0, cu.size⟩) := Sub.set (h.wr.nx _ (Nat.le_refl _)).1 _
      have hfr := h.newOb (.var c) (.cells cu e) ⟨w.heap.size, 0, cu.size⟩ rfl
        ⟨cu, e, by rw [heap_alloc]; simp, rfl, rfl, hv.mono hs, h1, h.wr.fresh⟩ (fun _ _ _ _ h => by cases h)
      refine ⟨_, _, _, lam, hk, hfr.put hd (.ptr (p := ⟨w.heap.size, 0, cu.size⟩) (Mu.set_self ..)), hx.set (h.wr.nx _ (Nat.le_refl _)).1 _ (.inl hz), by simp; omega⟩
    | false =>
      simp only [hesc, cond_false] at hk
      obtain ⟨lam', hfr, hlam⟩ := h.newLoc d cu e rfl hv h1
      have hloc : loc d = true := by
        simp only [allocOk, hesc, Bool.false_or] at hok
        exact hok
      refine ⟨_, _, m, lam', hk, hfr.putL hd (fun d' h => by cases h; exact hloc) ⟨d, a.ver d, 0, _, rfl, hlam, rfl⟩, hx, by simp; omega⟩

/-- What stays as it is while another function runs: what stayed, and the function's own variables. -/
noncomputable def prL (pr : Pr) (a : A) (lam : Lam) (w : World) : Pr :=
  { pr with blk := fun k => @ite _ (∃ t v c, a.l t = some (v, c) ∧ lam t v = some k) (Classical.propDecidable _) w.heap[k]? (pr.blk k) }

theorem prL_loc {k t v : Nat} {c : List Value} (h1 : a.l t = some (v, c)) (h2 : lam t v = some k) : (prL pr a lam w).blk k = w.heap[k]? := by
  simp only [prL]
  exact if_pos ⟨t, v, c, h1, h2⟩
theorem prL_other {k : Nat} (h : ¬ ∃ t v c, a.l t = some (v, c) ∧ lam t v = some k) : (prL pr a lam w).blk k = pr.blk k := by
  simp only [prL]
  exact if_neg h

theorem obR_pr {pr pr' : Pr} {m : Mu} {w : World} : ∀ {o : Ob} {p : Pl}, obR pr m w o p → (pr.blk p.b = none → pr'.blk p.b = none) → obR pr' m w o p
  | .var _, _, ⟨cur, e, h1, h2, h3, h4, h5, h6⟩, h => ⟨cur, e, h1, h2, h3, h4, h5, h h6⟩
  | .arr .., _, ⟨cur, e, fz, h1, h2, h3, h4, h5, h6⟩, h => ⟨cur, e, fz, h1, h2, h3, h4, h5, fun ho => ⟨(h6 ho).1, h (h6 ho).2⟩⟩
  | .map _ _, _, ⟨es, h1, h2, h3, h4⟩, h => ⟨es, h1, h2, h3, h h4⟩
  | .iter _ _ _ _, _, ⟨x, h1, h2, h3, h4⟩, h => ⟨x, h1, h2, h3, h h4⟩

theorem FR.inner (h : FR pr loc n m lam a s aC w) : WR (prL pr a lam w) m s w where
  os := h.wr.os
  tape := h.wr.tape
  out := h.wr.out
  prot := fun k o hk => by
    by_cases hl : ∃ t v c, a.l t = some (v, c) ∧ lam t v = some k
    · obtain ⟨t, v, c, h1, h2⟩ := hl
      rwa [prL_loc h1 h2] at hk
    · rw [prL_other hl] at hk
      exact h.wr.prot k o hk
  lt := h.wr.lt
  nx := h.wr.nx
  gl := fun k hk => by
    obtain ⟨c, e, fz, n, h1, h2⟩ := h.wr.gl k hk
    refine ⟨c, e, fz, n, ?_, h2⟩
    rw [prL_other]
    · exact h1
    · rintro ⟨t, v, c', k1, k2⟩
      rw [(h.lr.far t v k k2).2.1] at h1; cases h1
  nd := h.wr.nd
  nf := h.wr.nf
  ob := fun i o hi hr => by
    obtain ⟨p, hp, hob⟩ := h.wr.ob i o hi hr
    refine ⟨p, hp, obR_pr hob fun hb => ?_⟩
    rw [prL_other]
    · exact hb
    · rintro ⟨t, v, c, h1, h2⟩
      exact (h.lr.far t v _ h2).2.2 i p hp rfl
  sep := h.wr.sep

/-- Behind a call. -/
theorem FR.after (h : FR pr loc n m lam a s aC w) {m' : Mu} {s' : St} {w' : World} (hw : WR (prL pr a lam w) m' s' w') (hx : Ext m w.heap.size m') (hsz : w.heap.size ≤ w'.heap.size) : FR pr loc n m' lam a s' aC w' := by
  have hkeep : ∀ t v c b, a.l t = some (v, c) → lam t v = some b → w'.heap[b]? = w.heap[b]? := by
    intro t v c b h1 h2
    obtain ⟨b', cu, e, k1, k2, _⟩ := h.lr.cur t v c h1
    rw [h2] at k1; cases k1
    rw [k2]
    exact hw.prot b _ (by rw [prL_loc h1 h2]; exact k2)
  refine h.world hx.1 ?_ hsz hkeep ?_
  · exact {
      os := hw.os
      tape := hw.tape
      out := hw.out
      prot := fun k o hk => by
        refine hw.prot k o ?_
        rw [prL_other]
        · exact hk
        · rintro ⟨t, v, c, h1, h2⟩
          rw [(h.lr.far t v k h2).2.1] at hk; cases hk
      lt := hw.lt
      nx := hw.nx
      gl := h.wr.gl
      nd := hw.nd
      nf := hw.nf
      ob := fun i o hi hr => by
        obtain ⟨p, hp, hob⟩ := hw.ob i o hi hr
        refine ⟨p, hp, obR_pr hob fun hb => ?_⟩
        by_cases hl : ∃ t v c, a.l t = some (v, c) ∧ lam t v = some p.b
        · obtain ⟨t, v, c, h1, h2⟩ := hl
          exact (h.lr.far t v _ h2).2.1
        · rwa [prL_other hl] at hb
      sep := hw.sep }
  · intro t v b hlam i p hp
    rcases hx.2 i p hp with h1 | h1 | ⟨j, q, hq, hqb⟩
    · exact (h.lr.far t v b hlam).2.2 i p h1
    · have := (h.lr.far t v b hlam).1
      omega
    · rw [← hqb]
      exact (h.lr.far t v b hlam).2.2 j q hq
end
end Go.Proofs.Ytbcjgolkcfdnfaa.Sim
