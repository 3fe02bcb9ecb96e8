import Derived.Test.YtbcjgolkcfdnfaaSimF
/- Sim, seventh text: each operation keeps what is known. No condition. -/
namespace Go.Proofs.Ytbcjgolkcfdnfaa.Sim
open Go

/-- What holds behind a step, of some abstract run that the machine's stands to. -/
def Up (pr : Pr) (loc : Nat → Bool) (n : Nat) (m0 : Mu) (z : Nat) (K : A → St → Prop) (aC : Act) (w : World) : Prop :=
  ∃ a s m lam, K a s ∧ FR pr loc n m lam a s aC w ∧ Ext m0 z m ∧ z ≤ w.heap.size

/-- What is known of a running function that a panic ends. -/
structure PRel (pr : Pr) (m : Mu) (a : A) (s : St) (aC : Act) (w : World) : Prop where
  wr : WR pr m s w
  df : DR m a.d aC.defers
  tp : ∀ i, a.t i = undef ∨ (∃ b o d, a.t i = .pointer (some ⟨b, o, some d⟩)) ∨ VR m (a.t i) (aC.tmps.getD i undef)
theorem FR.prel {pr : Pr} {loc : Nat → Bool} {n : Nat} {m : Mu} {lam : Lam} {a : A} {s : St} {aC : Act} {w : World} (h : FR pr loc n m lam a s aC w) : PRel pr m a s aC w where
  wr := h.wr
  df := h.df
  tp := fun i => by
    cases hl : loc i with
    | false => exact .inr (.inr (h.tm i hl))
    | true =>
      rcases h.tl i hl with hv | ⟨d, b, o, _, e, _⟩
      · exact .inr (.inr hv)
      · exact .inr (.inl ⟨b, o, d, e⟩)
theorem PRel.bare {pr : Pr} {m : Mu} {a : A} {s : St} {aC : Act} {w : World} (h : PRel pr m a s aC w) : PRel pr m a.bare s aC w where
  wr := h.wr
  df := h.df
  tp := fun _ => .inl rfl

def UpQ (pr : Pr) (loc : Nat → Bool) (n : Nat) (m0 : Mu) (z : Nat) (Q : Ex → A → St → Prop) : Exit → Act → World → Prop
  | .normal, aC, w => Up pr loc n m0 z (Q .normal) aC w
  | .exit id, aC, w => Up pr loc n m0 z (Q (.exit id)) aC w
  | .ret, aC, w => Up pr loc n m0 z (Q .ret) aC w
  | .panic c, aC, w => ∃ (a : A) (s : St) (m : Mu) (v v' : Value), c = [{ v := v', recovered := false }] ∧ VR m v v' ∧ Q (.pan v) a s ∧ PRel pr m a s aC w ∧ Ext m0 z m ∧ z ≤ w.heap.size
  | _, _, _ => False

theorem Up.mono {pr : Pr} {loc : Nat → Bool} {n : Nat} {m0 : Mu} {z : Nat} {K K' : A → St → Prop} {aC : Act} {w : World} (h : ∀ a s, K a s → K' a s) : Up pr loc n m0 z K aC w → Up pr loc n m0 z K' aC w :=
  fun ⟨a, s, m, lam, hk, r⟩ => ⟨a, s, m, lam, h a s hk, r⟩

def allocOk (esc : List Nat) (loc : Nat → Bool) : Option Tmp → Bool
  | some d => esc.contains d || loc d
  | none => false

/-- A test of one operation of the code's text. -/
def opOk (P : Program) (n : Nat) (loc : Nat → Bool) (esc : List Nat) (o : Oper) : Bool :=
  dstOk n o.dst &&
  match o.op with
  | .alloc e => allocOk esc loc o.dst && (match zeroT P e with | some z => flatB 6 z && noTup z | none => false)
  | .box _ x => allocOk esc loc o.dst && opnd n loc false x
  | .load t x => sizeOk P t && opnd n loc true x
  | .store t x y => sizeOk P t && opnd n loc true x && opnd n loc false y
  | .fieldAddr _ x _ => opnd n loc true x && (match x, o.dst with | .tmp t, some d => !loc t || loc d | .tmp t, none => !loc t | _, _ => true)
  | .nilCheck x => opnd n loc true x && (match x, o.dst with | .tmp t, some d => !loc t || loc d | .tmp t, none => !loc t | _, _ => true)
  | .call { callee := .value (.func f), args, argTypes := _ } => callB P f && args.all (opnd n loc false)
  | .call { callee := .value (.tmp t), args, argTypes := _ } => opnd n loc false (.tmp t) && args.all (opnd n loc false)
  | .defer { callee := .value (.func f), args, argTypes := _ } => callB P f && args.all (opnd n loc false)
  | .defer { callee := .value (.tmp t), args, argTypes := _ } => opnd n loc false (.tmp t) && args.all (opnd n loc false)
  | .panic x => opnd n loc false x
  | op => op.operands.all (opnd n loc false) && pureOk P op && sideOk P op && effOk P op

section
variable {P : Program} {pr : Pr} {loc : Nat → Bool} {n : Nat} {m m0 : Mu} {z : Nat} {lam : Lam} {a : A} {s : St} {aC : Act} {w : World} {esc : List Nat}

/-- An operation that comes to a value and leaves the memory alone. -/
theorem wp_value {o : Oper} {v' : Value} {K : Act → World → Prop} {Q : Exit → Act → World → Prop} (h : (execOp aC.eval o).run P w = .ok (.value v') w) (hk : K (aC.put o.dst v') w) : o.wp P aC w K Q := by
  unfold Oper.wp
  rw [h]
  exact hk

theorem run_loadT {t : TypeId} (hok : sizeOk P t = true) {b o : Nat} {vs : List Value} (hr : w.rangeAt b o vs) (hl : vs.length = sizeT P t) :
    (Instr.loadAt t (.pointer (some ⟨b, o, none⟩))).run P w = .ok (valT P t vs) w := by
  obtain ⟨⟨d, hd⟩, h1⟩ := sizeOk_spec hok
  cases hrow : rowT P t
  · have h1 : sizeT P t = 1 := h1.resolve_left (by simp [hrow])
    rw [h1] at hl
    obtain ⟨v, rfl⟩ : ∃ v, vs = [v] := by
      cases vs with
      | nil => simp at hl
      | cons v r => cases r with
        | nil => exact ⟨v, rfl⟩
        | cons _ _ => simp at hl
    rw [valT_one hrow]
    have hc : w.cell? ⟨b, o, none⟩ = some v := hr 0 v rfl
    simp [Instr.loadAt, Instr.sureAddr, loadVar, run_isAggT w hd, hrow, hc]
  · rw [valT_row hrow]
    have hisr : d.isRow = true := by rw [← isRow_under hd]; exact hrow
    obtain ⟨i, hi⟩ := info_of_under hd
    exact run_loadAt_mid w b o t vs d hr hd hisr (by rw [hi]; simp [hl, sizeT, hi])

theorem run_storeT {t : TypeId} {d : TypeDesc} (hd : P.underlying t = some d) {b o : Nat} {v : Value} (ht : w.there b o v.cells.size) (hl : v.cells.size = sizeT P t) (h1 : ∀ u ∈ v.cells.toList, u.oneCell' = true) :
    (Instr.storeAt t (.pointer (some ⟨b, o, none⟩)) v).run P w = .ok () (w.setCells b o v.cells.toList) := by
  obtain ⟨i, hi⟩ := info_of_under hd
  have := run_storeCells_cells (P := P) b o v.cells.toList 0 w (fun j hj => by simpa using (ht j (by simpa using hj)).1) (fun j hj => by simpa using (ht j (by simpa using hj)).2) h1
  simp only [Nat.add_zero] at this
  simp [Instr.storeAt, Instr.sureAddr, storeVar, run_sizeOfT w hi, hl, this]

theorem sub_len {c vs : List Value} {off k : Nat} (h : sub c off k = some vs) : vs.length = k := by
  obtain ⟨hl, rfl⟩ := Sub_of_sub h
  rw [List.length_take, List.length_drop]; omega

/-- A load. -/
theorem load_sound (h : FR pr loc n m lam a s aC w) {t : TypeId} {x : Operand} (hok : sizeOk P t = true) (hx : opnd n loc true x = true) {K : Value → Prop} (hk : loadX P t (a.ev x) K a s) :
    ∃ v v', K v ∧ VR m v v' ∧ (Instr.loadAt t (aC.eval x)).run P w = .ok v' w := by
  have hsz := (sizeOk_spec hok).2
  unfold loadX at hk
  split at hk
  · rename_i i off he
    obtain ⟨vs, hrd, hk⟩ := hk
    rcases h.evL hx with hv | ⟨⟨_, _, _, _, e, _⟩, _⟩
    · rw [he] at hv
      generalize hρ : aC.eval x = u at hv
      cases hv with
      | @ptr _ _ p hp =>
        obtain ⟨q, vs', hq, hvs, h1, hlen, hr, _⟩ := h.wr.rd hrd
        rw [hp] at hq; cases hq
        exact ⟨_, _, hk, VR.valT hvs h1 (hsz.imp id fun e => hlen.trans e), run_loadT hok hr (hvs.len ▸ hlen)⟩
    · rw [he] at e; cases e
  · rename_i v off d he
    split at hk
    · rename_i v' c hloc
      cases hb : Nat.beq v v' with
      | false => simp [hb] at hk
      | true =>
      have hvv := Nat.eq_of_beq_eq_true hb
      subst hvv
      simp only [hb, cond_true] at hk
      split at hk
      · rename_i vs hsub
        rcases h.evL hx with hv | ⟨⟨d', v', off', b, e, hlam, e'⟩, _⟩
        · rw [he] at hv; cases hv
        · rw [he] at e; cases e
          obtain ⟨b', cu, el, hl', hheap, hvs, h1⟩ := h.lr.cur d v c hloc
          rw [hlam] at hl'; cases hl'
          obtain ⟨hle, rfl⟩ := Sub_of_sub hsub
          have hlen := sub_len hsub
          refine ⟨_, _, hk, VR.valT ((hvs.drop off).take _) (fun u hu => h1 u (List.mem_of_mem_drop (List.mem_of_mem_take hu))) (hsz.imp id fun e => hlen.trans e), ?_⟩
          rw [e']
          refine run_loadT hok ?_ (by rw [List.length_take, List.length_drop, ← hvs.len]; omega)
          intro j u hj
          rw [List.getElem?_take, List.getElem?_drop] at hj
          split at hj
          · simpa [World.cell?, hheap] using hj
          · simp at hj
      · exact hk.elim
    · exact hk.elim
  · exact hk.elim

theorem loc_self (a : A) (d v : Nat) (c : List Value) : (a.loc d v c).l d = some (v, c) := by simp [A.loc]
theorem loc_ne (a : A) {d t : Nat} (v : Nat) (c : List Value) (h : t ≠ d) : (a.loc d v c).l t = a.l t := by
  simp only [A.loc]
  cases hb : Nat.beq t d
  · rfl
  · exact absurd (Nat.eq_of_beq_eq_true hb) h

/-- A store to a variable that only the function knows. -/
theorem FR.locStore (h : FR pr loc n m lam a s aC w) {d v b off : Nat} {c c' vs vs' : List Value} (hl : a.l d = some (v, c)) (hlam : lam d v = some b) (hs : spl c off vs = some c')
    (hv : VRs m vs vs') (h1 : ∀ u ∈ vs, u.oneCell' = true) :
    w.there b off vs'.length ∧ FR pr loc n m lam (a.loc d v c') s aC (w.setCells b off vs') := by
  obtain ⟨b', cu, e, hb', hheap, hvs, hc1⟩ := h.lr.cur d v c hl
  rw [hlam] at hb'; cases hb'
  obtain ⟨hle, rfl⟩ := of_spl hs
  have hlv := hv.len
  have hlc : c.length = cu.size := by simpa using hvs.len
  obtain ⟨hblt, hbpr, hbfar⟩ := h.lr.far d v b hlam
  obtain ⟨q1, q2, q3, q4⟩ := setCells_os b vs' off w
  obtain ⟨cu', hcu', hcl⟩ := setCells_self b (e := e) (fz := (0, 0)) vs' off w cu hheap (by omega)
  refine ⟨fun j hj => by
    have hlt : off + j < cu.size := by omega
    simp [World.cell?, World.frozen?, hheap, hlt], ?_⟩
  exact {
    wr := h.wr.step q1 q2 q3 (by rw [q4]; exact Nat.le_refl _) (fun k _ hk => setCells_ne b (by
      rintro rfl
      rcases hk with hk | ⟨i, p, hp, hpb⟩
      · exact hk hbpr
      · exact hbfar i p hp hpb) vs' off w)
    lr := {
      cur := fun t v' c' hc => by
        by_cases htd : t = d
        · subst htd
          rw [loc_self] at hc
          cases hc
          refine ⟨b, cu', e, hlam, hcu', ?_, ?_⟩
          · rw [hcl, ← hlv]
            exact (hvs.take off).app (hv.app (hvs.drop _))
          · intro u hu
            rw [List.mem_append, List.mem_append] at hu
            rcases hu with hu | hu | hu
            · exact hc1 u (List.mem_of_mem_take hu)
            · exact h1 u hu
            · exact hc1 u (List.mem_of_mem_drop hu)
        · rw [loc_ne _ _ _ htd] at hc
          obtain ⟨b2, cu2, e2, k1, k2, k3⟩ := h.lr.cur t v' c' hc
          refine ⟨b2, cu2, e2, k1, ?_, k3⟩
          rw [setCells_ne b (by rintro rfl; exact htd (h.lr.inj t v' c' d v c _ hc hl k1 hlam)) vs' off w]
          exact k2
      far := fun t v' b2 hb2 => by rw [q4]; exact h.lr.far t v' b2 hb2
      old := fun t v' b2 hb2 => by
        have := h.lr.old t v' b2 hb2
        unfold A.ver at this ⊢
        by_cases htd : t = d
        · subst htd; rw [loc_self]; rw [hl] at this; exact this
        · rw [loc_ne _ _ _ htd]; exact this
      inj := fun t v1 c1 t' v1' c1' b2 k1 k2 k3 k4 => by
        by_cases htd : t = d
        · subst htd
          rw [loc_self] at k1; cases k1
          by_cases htd' : t' = t
          · exact htd'.symm
          · rw [loc_ne _ _ _ htd'] at k2
            exact h.lr.inj t v c t' v1' c1' b2 hl k2 k3 k4
        · rw [loc_ne _ _ _ htd] at k1
          by_cases htd' : t' = d
          · subst htd'
            rw [loc_self] at k2; cases k2
            exact h.lr.inj t v1 c1 t' v c b2 k1 hl k3 k4
          · rw [loc_ne _ _ _ htd'] at k2
            exact h.lr.inj t v1 c1 t' v1' c1' b2 k1 k2 k3 k4 }
    sz := h.sz
    tm := h.tm
    tl := h.tl
    df := h.df }

/-- A store. -/
theorem store_sound (h : FR pr loc n m lam a s aC w) {t : TypeId} {x y : Operand} (hok : sizeOk P t = true) (hx : opnd n loc true x = true) (hy : opnd n loc false y = true) {K : A → St → Prop}
    (hk : storeX P t (a.ev x) (a.ev y) K a s) :
    ∃ a' s' w', K a' s' ∧ FR pr loc n m lam a' s' aC w' ∧ w.heap.size ≤ w'.heap.size ∧ (Instr.storeAt t (aC.eval x) (aC.eval y)).run P w = .ok () w' := by
  obtain ⟨⟨d, hd⟩, _⟩ := sizeOk_spec hok
  have hvy := h.ev hy
  have hvc := hvy.cells
  unfold storeX at hk
  cases hc : (Nat.beq (a.ev y).cells.size (sizeT P t) && noTup (a.ev y)) with
  | false => simp [hc] at hk
  | true =>
  simp only [hc, cond_true] at hk
  simp only [Bool.and_eq_true] at hc
  have hsize := Nat.eq_of_beq_eq_true hc.1
  have h1 := hvy.ones hc.2
  have hsize' : (aC.eval y).cells.size = sizeT P t := by
    have := hvc.len
    simp at this
    omega
  have h1' := hvc.ones h1
  split at hk
  · rename_i i off he
    obtain ⟨c, c', ho, hspl, hk⟩ := hk
    rcases h.evL hx with hv | ⟨⟨_, _, _, _, e, _⟩, _⟩
    · rw [he] at hv
      generalize hρ : aC.eval x = u at hv
      cases hv with
      | @ptr _ _ p hp =>
        obtain ⟨q, hq, hthere, hwr⟩ := h.wr.store ho hspl hvc h1
        rw [hp] at hq; cases hq
        obtain ⟨q1, q2, q3, q4⟩ := setCells_os p.b (aC.eval y).cells.toList (p.base + off) w
        refine ⟨a, s.put i c', _, hk, h.world (Sub.refl m) hwr (by rw [q4]; exact Nat.le_refl _) ?_ ?_, by rw [q4]; exact Nat.le_refl _, run_storeT hd (by simpa using hthere) hsize' h1'⟩
        · intro t v c b hl hlam
          exact setCells_ne p.b (fun e => (h.lr.far t v b hlam).2.2 i p hp e.symm) _ _ w
        · intro t v b hlam i p hp
          exact (h.lr.far t v b hlam).2.2 i p hp
    · rw [he] at e; cases e
  · rename_i v off d he
    split at hk
    · rename_i v' c hloc
      cases hb : Nat.beq v v' with
      | false => simp [hb] at hk
      | true =>
      have hvv := Nat.eq_of_beq_eq_true hb
      subst hvv
      simp only [hb, cond_true] at hk
      split at hk
      · rename_i c' hspl
        rcases h.evL hx with hv | ⟨⟨d', v', off', b, e, hlam, e'⟩, _⟩
        · rw [he] at hv; cases hv
        · rw [he] at e; cases e
          obtain ⟨hthere, hfr⟩ := h.locStore hloc hlam hspl hvc h1
          obtain ⟨q1, q2, q3, q4⟩ := setCells_os b (aC.eval y).cells.toList off w
          refine ⟨_, s, _, hk, hfr, by rw [q4]; exact Nat.le_refl _, ?_⟩
          rw [e']
          exact run_storeT hd (by simpa using hthere) hsize' h1'
      · exact hk.elim
    · exact hk.elim
  · exact hk.elim
end
end Go.Proofs.Ytbcjgolkcfdnfaa.Sim
