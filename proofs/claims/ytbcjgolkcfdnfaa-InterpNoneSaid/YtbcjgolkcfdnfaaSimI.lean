import Derived.Test.YtbcjgolkcfdnfaaSimH
/- Sim, ninth text: an operation, operations in a row, and code. No condition. -/
namespace Go.Proofs.Ytbcjgolkcfdnfaa.Sim
open Go
section
variable {P : Program} {pr : Pr} {loc : Nat → Bool} {n : Nat} {m m0 : Mu} {z : Nat} {lam : Lam} {a : A} {s : St} {aC : Act} {w : World} {esc : List Nat}

theorem Oper.wp_monoQ {o : Oper} {a : Act} {w : World} {K : Act → World → Prop} {Q Q' : Exit → Act → World → Prop} (hh : o.wp P a w K Q) (h : ∀ e, e ≠ .normal → ∀ a w, Q e a w → Q' e a w) : o.wp P a w K Q' := by
  unfold Go.Oper.wp at *
  generalize (execOp a.eval o).run P w = r at *
  cases r with
  | ok n w' =>
    cases n <;> simp only [Oper.upon] at hh ⊢ <;>
      first
        | exact hh
        | exact Calls.mono hh (fun e w'' he => by
            cases e with
            | returned v => exact he
            | panicked c => exact h _ (by simp) _ _ he
            | outgrown => exact he.imp fun _ he => he.imp fun _ he => h _ (by simp) _ _ he)
  | halt x w' => cases x <;> simp only [Oper.upon] at hh ⊢ <;> first | exact h _ (by simp) _ _ hh | exact hh

theorem FR.evs (h : FR pr loc n m lam a s aC w) : ∀ {l : List Operand}, (∀ x ∈ l, opnd n loc false x = true) → VRs m (l.map a.ev) (l.map aC.eval)
  | [], _ => .nil
  | x :: l, hx => .cons (h.ev (hx x (by simp))) (FR.evs h fun y hy => hx y (by simp [hy]))

theorem run_callFunc {f : FuncId} (hok : callB P f = true) (args : Array Value) : (callFunc f args).run P w = .ok (.enter f args) w := by
  unfold callB at hok
  cases hf : P.funcs[f]? with
  | none => simp [hf] at hok
  | some fn =>
    simp only [hf, Bool.and_eq_true, Bool.not_eq_true'] at hok
    have hb : ¬ fn.body = none := by
      intro hb
      rw [hb] at hok
      exact Bool.noConfusion hok.1
    have hne : ¬ fn.name = "runtime.NumGoroutine" := by simpa using hok.2
    simp [callFunc, hf, hne, hb]

theorem LV.off {x x' : Value} {i off k : Nat} {sp : Option Nat} (h : LV lam x x') (hx : x = .pointer (some ⟨i, off, sp⟩)) :
    ∃ b, x' = .pointer (some ⟨b, off, none⟩) ∧ LV lam (.pointer (some ⟨i, off + k, sp⟩)) (.pointer (some ⟨b, off + k, none⟩)) := by
  obtain ⟨s, v, off', b, e, hl, e'⟩ := h
  rw [hx] at e; cases e
  exact ⟨b, e', s, _, _, b, rfl, hl, rfl⟩

theorem FR.evs' (h : FR pr loc n m lam a s aC w) {args : Array Operand} (hx : args.all (opnd n loc false) = true) : VRs m (args.toList.map a.ev) (args.map aC.eval).toList := by
  rw [Array.toList_map]
  exact h.evs fun x hm => by
    rw [Array.all_eq_true_iff_forall_mem] at hx
    exact hx x (by simpa using hm)

theorem FR.later (h : FR pr loc n m lam a s aC w) {f : FuncId} {args : List Value} {args' captured : Array Value} (hv : VRs m args (args'.toList ++ captured.toList)) :
    FR pr loc n m lam { a with d := ⟨f, args⟩ :: a.d } s { aC with defers := { target := .fn (.func f) captured, args := args' } :: aC.defers } w where
  wr := h.wr
  lr := h.lr.congr rfl
  sz := h.sz
  tm := h.tm
  tl := h.tl
  df := .cons (d := ⟨f, args⟩) hv h.df

/-- A call. -/
theorem called (h : FR pr loc n m lam a s aC w) (hx : Ext m0 z m) (hz : z ≤ w.heap.size) {o : Oper} (hd : dstOk n o.dst = true) {Q : Ex → A → St → Prop} {K : A → St → Prop} {f : FuncId} {args : List Value} {args' : Array Value} (hargs : VRs m args args'.toList)
    (hrun : (execOp aC.eval o).run P w = .ok (.enter f args') w)
    (hk : CallsX P f args s fun r s' => match r with | .ret v => K (a.put o.dst v) s' | .pan v => Q (.pan v) a s') : o.wp P aC w (Up pr loc n m0 z K) (UpQ pr loc n m0 z Q) := by
  have hc := hk (prL pr a lam w) m w _ h.inner hargs
  unfold Oper.wp
  rw [hrun]
  simp only [Oper.upon]
  refine Calls.mono hc ?_
  rintro e w' ⟨r, s', m', hr, hwr, hext, hsz, hkk⟩
  have hfr := h.after hwr hext hsz
  cases r with
  | ret v =>
    cases e with
    | returned v' => exact ⟨_, s', m', lam, hkk, hfr.put hd hr, hx.trans hext hz, Nat.le_trans hz hsz⟩
    | panicked c => exact hr.elim
    | outgrown => exact hr.elim
  | pan v =>
    cases e with
    | returned v' => exact hr.elim
    | panicked c =>
      obtain ⟨v', rfl, hv⟩ := hr
      exact ⟨a, s', m', v, v', rfl, hv, hkk, hfr.prel, hx.trans hext hz, Nat.le_trans hz hsz⟩
    | outgrown => exact hr.elim

/-- An operation that does something with what others know, too. -/
theorem effected (h : FR pr loc n m lam a s aC w) (hx : Ext m0 z m) (hz : z ≤ w.heap.size) {o : Oper} (hd : dstOk n o.dst = true) {Q : Exit → Act → World → Prop} {K : A → St → Prop} (he : EffOk P pr m w (fun v s' => K (a.put o.dst v) s') (execOp aC.eval o)) :
    o.wp P aC w (Up pr loc n m0 z K) Q := by
  obtain ⟨v, s', m', v', w', hk, hv, hwr, hext, hsz, hfar, hrun⟩ := he
  unfold Oper.wp
  have hgo : Up pr loc n m0 z K (aC.put o.dst v') w' → Oper.upon P o aC (Up pr loc n m0 z K) Q ((execOp aC.eval o).run P w) := fun hh => by
    rcases hrun with hrun | ⟨rfl, hrun⟩
    · rw [hrun]; exact hh
    · rw [hrun]; exact hh
  refine hgo ⟨_, s', m', lam, hk, FR.put (h.world hext.1 hwr hsz ?_ ?_) hd hv, hx.trans hext hz, Nat.le_trans hz hsz⟩
  · intro t v c b _ hb
    obtain ⟨h1, _, h3⟩ := h.lr.far t v b hb
    exact hfar b h1 h3
  · intro t v b hb i p hp
    obtain ⟨h1, _, h3⟩ := h.lr.far t v b hb
    rcases hext.2 i p hp with hp | hp | ⟨j, q, hq, hqb⟩
    · exact h3 i p hp
    · omega
    · rw [← hqb]; exact h3 j q hq

theorem opX_sound (h : FR pr loc n m lam a s aC w) (hx : Ext m0 z m) (hz : z ≤ w.heap.size) (o : Oper) (hok : opOk P n loc esc o = true) {Q : Ex → A → St → Prop} {K : A → St → Prop}
    (hk : opX P (CallsX P) esc o Q K a s) : o.wp P aC w (Up pr loc n m0 z K) (UpQ pr loc n m0 z Q) := by
  have here : ∀ {v v' : Value}, K (a.put o.dst v) s → VR m v v' → dstOk n o.dst = true → Up pr loc n m0 z K (aC.put o.dst v') w :=
    fun hk hv hd => ⟨_, s, m, lam, hk, h.put hd hv, hx, hz⟩
  unfold opOk at hok
  rw [Bool.and_eq_true] at hok
  obtain ⟨hd, hok⟩ := hok
  unfold opX at hk
  split at hk
  · -- alloc
    rename_i e he
    rw [he] at hok
    simp only [Bool.and_eq_true] at hok
    cases hzt : zeroT P e with
    | none => simp [hzt] at hk
    | some zv =>
    simp only [hzt, Bool.and_eq_true] at hk hok
    have hfl : VR m zv zv := .flat (Flat.of 6 zv hok.2.1)
    have hzero : (zeroValue e).run P w = .ok zv w := by
      unfold zeroT at hzt
      cases hi : P.info? e with
      | none => simp [hi] at hzt
      | some i =>
        simp only [hi] at hzt
        simp [zeroValue, typeInfo, hi, hzt]
    have := alloc_sound h hx hz hd hok.1 zv.cells e hfl.cells (hfl.ones hok.2.2) hk
    unfold Oper.wp
    simp only [execOp, he, Instr.alloc, Sem.run_bind, hzero, Result.andThen_ok, newVar, newRow, run_newObj, Sem.run_pure, Oper.upon]
    exact this
  · -- box
    rename_i e x he
    rw [he] at hok
    simp only [Bool.and_eq_true] at hok
    cases hn : noTup (a.ev x) with
    | false => simp [hn] at hk
    | true =>
    simp only [hn, cond_true] at hk
    have hv := h.ev hok.2
    have := alloc_sound h hx hz hd hok.1 (aC.eval x).cells e hv.cells (hv.ones hn) hk
    unfold Oper.wp
    simp only [execOp, he, Instr.box, Sem.run_bind, newVar, newRow, run_newObj, Result.andThen_ok, Sem.run_pure, Oper.upon]
    exact this
  · -- load
    rename_i t x he
    rw [he] at hok
    simp only [Bool.and_eq_true] at hok
    obtain ⟨v, v', hkv, hv, hrun⟩ := load_sound h hok.1 hok.2 hk
    exact wp_value (by simp only [execOp, he, Sem.run_bind, hrun, Result.andThen_ok, Sem.run_pure]) (here hkv hv hd)
  · -- store
    rename_i t x y he
    rw [he] at hok
    simp only [Bool.and_eq_true] at hok
    obtain ⟨a', s', w', hkk, hfr, hsz, hrun⟩ := store_sound h hok.1.1 hok.1.2 hok.2 hk
    unfold Oper.wp
    simp only [execOp, he, Sem.run_bind, hrun, Result.andThen_ok, Sem.run_pure, Oper.upon]
    exact ⟨_, s', m, lam, hkk, hfr.put hd (.tuple .nil), hx, Nat.le_trans hz hsz⟩
  · -- call
    rename_i f args tys he
    rw [he] at hok
    simp only [Bool.and_eq_true] at hok
    have hargs := h.evs' hok.2
    have hrun : (execOp aC.eval o).run P w = .ok (.enter f (args.map aC.eval)) w := by
      simp only [execOp, he, resolve, Deferred.ofValue, Act.eval, Sem.run_bind, Sem.run_pure, Result.andThen_ok, invoke]
      simp only [Array.empty_append, Array.append_empty]
      exact run_callFunc hok.1 _
    exact called h hx hz hd hargs hrun hk
  · -- call of a value
    rename_i t args tys he
    rw [he] at hok
    simp only [Bool.and_eq_true] at hok
    have hargs := h.evs' hok.2
    have hv := h.ev hok.1
    simp only [A.ev] at hv
    split at hk
    · rename_i f first captured hf
      rw [hf] at hv
      generalize hρ : aC.eval (.tmp t) = u at hv
      cases hv with
      | @func _ _ fs' _ cs' h1 h2 =>
      have hrun : (execOp aC.eval o).run P w = .ok (.enter f (fs' ++ args.map aC.eval ++ cs')) w := by
        simp only [execOp, he, resolve, hρ, Deferred.ofValue, Sem.run_bind, Sem.run_pure, Result.andThen_ok, invoke]
        exact run_callFunc hk.1 _
      exact called h hx hz hd (by simpa using (h1.app hargs).app h2) hrun hk.2
    · exact hk.elim
  · -- defer
    rename_i f args tys he
    rw [he] at hok
    simp only [Bool.and_eq_true] at hok
    have hargs := h.evs' hok.2
    have hrun : (execOp aC.eval o).run P w = .ok (.defer { target := .fn (.func f) #[], args := args.map aC.eval }) w := by
      simp [execOp, he, resolve, Deferred.ofValue, Act.eval]
    unfold Oper.wp
    rw [hrun]
    simp only [Oper.upon]
    exact ⟨_, s, m, lam, hk, (h.later (f := f) (args' := args.map aC.eval) (captured := #[]) (by simpa using hargs)).put hd (.tuple .nil), hx, hz⟩
  · -- defer of a value
    rename_i t args tys he
    rw [he] at hok
    simp only [Bool.and_eq_true] at hok
    have hargs := h.evs' hok.2
    have hv := h.ev hok.1
    simp only [A.ev] at hv
    split at hk
    · rename_i f first captured hf
      rw [hf] at hv
      generalize hρ : aC.eval (.tmp t) = u at hv
      cases hv with
      | @func _ _ fs' _ cs' h1 h2 =>
      have hrun : (execOp aC.eval o).run P w = .ok (.defer { target := .fn (.func f) cs', args := fs' ++ args.map aC.eval }) w := by
        simp only [execOp, he, resolve, hρ, Deferred.ofValue, Sem.run_bind, Sem.run_pure, Result.andThen_ok]
      unfold Oper.wp
      rw [hrun]
      simp only [Oper.upon]
      exact ⟨_, s, m, lam, hk.2, (h.later (f := f) (args' := fs' ++ args.map aC.eval) (captured := cs') (by simpa using (h1.app hargs).app h2)).put hd (.tuple .nil), hx, hz⟩
    · exact hk.elim
  · -- panic
    rename_i x he
    rw [he] at hok
    have hv := h.ev hok
    split at hk
    · rename_i t v hf
      rw [hf] at hv
      generalize hρ : aC.eval x = u at hv
      cases hv with
      | @iface _ _ v' hvv =>
      have hrun : (execOp aC.eval o).run P w = .halt (.panic (.iface t v')) w := by
        simp [execOp, he, hρ, Instr.panic, goPanic]
      unfold Oper.wp
      rw [hrun]
      exact ⟨a, s, m, _, _, rfl, .iface hvv, hk, h.prel, hx, hz⟩
    · exact hk.elim
  · -- what only computes
    rename_i h1 h2 h3 h4 h5 h6 h7 h8 h9
    by_cases hfa : (∃ t x f, o.op = .fieldAddr t x f) ∨ ∃ x, o.op = .nilCheck x
    · rcases hfa with ⟨t, x, f, he⟩ | ⟨x, he⟩
      · rw [he] at hok hk
        simp only [Bool.and_eq_true] at hok
        simp only [isEffOp, cond_false] at hk
        rcases h.evL hok.1 with hv | ⟨hlv, t', rfl, hl⟩
        · -- as ever
          have hx' : ∀ y ∈ o.op.operands, VR m (a.ev y) (aC.eval y) := by
            rw [he]; intro y hy; simp [Op.operands] at hy; subst hy; exact hv
          cases hp : pureX P (.fieldAddr t x f) a.ev with
          | some v =>
            simp only [hp] at hk
            obtain ⟨v', hrun, hvv⟩ := pure_sound (P := P) w hx' (by rw [he]; rfl) (by rw [he]; exact hp)
            exact wp_value hrun (here hk hvv hd)
          | none => simp [hp, sideX] at hk
        · cases hp : pureX P (.fieldAddr t (.tmp t') f) a.ev with
          | none => simp [hp, sideX] at hk
          | some v =>
            simp only [hp] at hk
            unfold pureX at hp
            simp only at hp
            split at hp
            · rename_i ad fd hev hf
              cases hb : Nat.blt 0 (sizeT P fd.type) with
              | false => simp [hb] at hp
              | true =>
              simp only [hb, cond_true, Option.some.injEq] at hp
              subst hp
              obtain ⟨b, e', hlv'⟩ := hlv.off (k := fd.offset) hev
              have hdl : ∀ d, o.dst = some d → loc d = true := fun d hd' => by
                have := hok.2
                rw [hd'] at this
                simpa [hl] using this
              exact wp_value (by rw [execOp, he]; simp only [e', Sem.run_bind, run_fieldAt w hf (blt_pos hb), Result.andThen_ok, Sem.run_pure])
                ⟨_, s, m, lam, hk, h.putL hd hdl hlv', hx, hz⟩
            · simp at hp
      · rw [he] at hok hk
        simp only [Bool.and_eq_true] at hok
        simp only [isEffOp, cond_false] at hk
        rcases h.evL hok.1 with hv | ⟨hlv, t', rfl, hl⟩
        · have hx' : ∀ y ∈ o.op.operands, VR m (a.ev y) (aC.eval y) := by
            rw [he]; intro y hy; simp [Op.operands] at hy; subst hy; exact hv
          cases hp : pureX P (.nilCheck x) a.ev with
          | some v =>
            simp only [hp] at hk
            obtain ⟨v', hrun, hvv⟩ := pure_sound (P := P) w hx' (by rw [he]; rfl) (by rw [he]; exact hp)
            exact wp_value hrun (here hk hvv hd)
          | none => simp [hp, sideX] at hk
        · cases hp : pureX P (.nilCheck (.tmp t')) a.ev with
          | none => simp [hp, sideX] at hk
          | some v =>
            simp only [hp] at hk
            unfold pureX at hp
            simp only at hp
            split at hp
            · rename_i ad hev
              cases hp
              obtain ⟨b, e', hlv'⟩ := hlv.off (k := 0) hev
              have hdl : ∀ d, o.dst = some d → loc d = true := fun d hd' => by
                have := hok.2
                rw [hd'] at this
                simpa [hl] using this
              exact wp_value (v' := .pointer (some ⟨b, ad.off, none⟩)) (by rw [execOp, he]; simp only [e', Sem.run_pure])
                ⟨_, s, m, lam, hk, h.putL hd hdl hlv', hx, hz⟩
            · simp at hp
    · have hok' : (o.op.operands.all (opnd n loc false) && pureOk P o.op && sideOk P o.op && effOk P o.op) = true := by
        revert hok
        split <;> rename_i e
        · exact fun _ => absurd e (h1 _)
        · exact fun _ => absurd e (h2 _ _)
        · exact fun _ => absurd e (h3 _ _)
        · exact fun _ => absurd e (h4 _ _ _)
        · exact fun _ => absurd (.inl ⟨_, _, _, e⟩) hfa
        · exact fun _ => absurd (.inr ⟨_, e⟩) hfa
        · exact fun _ => absurd e (h5 _ _ _)
        · exact fun _ => absurd e (h6 _ _ _)
        · exact fun _ => absurd e (h7 _ _ _)
        · exact fun _ => absurd e (h8 _ _ _)
        · exact fun _ => absurd e (h9 _)
        · exact id
      simp only [Bool.and_eq_true] at hok'
      have hx' : ∀ y ∈ o.op.operands, VR m (a.ev y) (aC.eval y) := fun y hy => h.ev (by
        have := hok'.1.1.1
        rw [Array.all_eq_true_iff_forall_mem] at this
        exact this y hy)
      cases hie : isEffOp P o.op with
      | true =>
        simp only [hie, cond_true] at hk
        exact effected h hx hz hd (effX_sound h.wr hx' hok'.2 hie hk)
      | false =>
      simp only [hie, cond_false] at hk
      cases hp : pureX P o.op a.ev with
      | some v =>
        simp only [hp] at hk
        obtain ⟨v', hrun, hvv⟩ := pure_sound (P := P) w hx' hok'.1.1.2 hp
        exact wp_value hrun (here hk hvv hd)
      | none =>
        simp only [hp] at hk
        cases hs : sideX P o.op a.ev with
        | none => simp [hs] at hk
        | some cv =>
          obtain ⟨c, v⟩ := cv
          simp only [hs] at hk
          obtain ⟨v', hrun, hvv⟩ := side_sound (P := P) w hx' hok'.1.2 hs hk.1
          exact wp_value hrun (here hk.2 hvv hd)

/-- A test of the operations of a region. -/
def opsOk (P : Program) (n : Nat) (loc : Nat → Bool) (esc : List Nat) (l : List Oper) : Bool := l.all (opOk P n loc esc)

theorem yielded_of {ops : Array Oper} (h : FR pr loc n m lam a s aC w) {j : Nat} {b : Option Bool} (hj : gB (((ops[j]?).bind (·.dst)).map a.t) = some b) : yielded ops aC.tmps j = b := by
  unfold yielded
  cases hd : (ops[j]?).bind (·.dst) with
  | none => simp [hd, gB] at hj
  | some d =>
    simp only [hd, Option.map_some] at hj
    have hv : (∀ b o sp, a.t d ≠ .pointer (some ⟨b, o, sp⟩)) → VR m (a.t d) (aC.tmps.getD d undef) := fun hne => by
      cases hl : loc d with
      | false => exact h.tm d hl
      | true =>
        rcases h.tl d hl with h' | ⟨_, _, _, _, e, _⟩
        · exact h'
        · exact absurd e (hne _ _ _)
    unfold gB at hj
    split at hj
    · rename_i b' e
      simp only [Option.some.injEq] at e hj
      rw [e] at hv
      have hv := (hv (by simp)).bool_inv
      rw [Array.getD_eq_getD_getElem?] at hv
      subst hj
      cases ht : aC.tmps[d]? with
      | none => rw [ht] at hv; simp [undef] at hv
      | some v =>
        rw [ht] at hv
        simp only [Option.getD_some] at hv
        subst hv
        simp [ht]
    · rename_i e
      simp only [Option.some.injEq] at e hj
      rw [e] at hv
      have hv := hv (by simp)
      subst hj
      rw [Array.getD_eq_getD_getElem?] at hv
      cases ht : aC.tmps[d]? with
      | none => simp [ht]
      | some v =>
        rw [ht] at hv
        simp only [Option.getD_some] at hv
        cases hv
        simp [ht]
    · cases hj

theorem opsX_sound {ops : Array Oper} {Q : Ex → A → St → Prop} {K : A → St → Prop} (os : List Oper) : ∀ (idx : List Nat), idx.map (ops[·]?) = os.map some → opsOk P n loc esc os = true →
    ∀ (a : A) (s : St) (aC : Act) (w : World) (m : Mu) (lam : Lam), FR pr loc n m lam a s aC w → Ext m0 z m → z ≤ w.heap.size →
    opsX P (CallsX P) esc (fun j => (ops[j]?).bind (·.dst)) Q os K a s →
    wpOps P ops (fun e aC w => match e with | .normal => Up pr loc n m0 z K aC w | e => UpQ pr loc n m0 z Q e aC w) idx aC w := by
  induction os with
  | nil =>
    intro idx hi _ a s aC w m lam h hx hz hk
    have : idx = [] := by simpa using hi
    subst this
    exact ⟨a, s, m, lam, hk, h, hx, hz⟩
  | cons o r ih =>
    intro idx hi hok a s aC w m lam h hx hz hk
    cases idx with
    | nil => simp at hi
    | cons i idx =>
      simp only [List.map_cons, List.cons.injEq] at hi
      simp only [opsOk, List.all_cons, Bool.and_eq_true] at hok
      obtain ⟨hi0, hi⟩ := hi
      have next : ∀ (aC : Act) (w : World), Up pr loc n m0 z (opsX P (CallsX P) esc (fun j => (ops[j]?).bind (·.dst)) Q r K) aC w →
          wpOps P ops (fun e aC w => match e with | .normal => Up pr loc n m0 z K aC w | e => UpQ pr loc n m0 z Q e aC w) idx aC w :=
        fun aC w ⟨a, s, m, lam, hk, h, hx, hz⟩ => ih idx hi hok.2 a s aC w m lam h hx hz hk
      simp only [wpOps, hi0]
      have go : opX P (CallsX P) esc o Q (opsX P (CallsX P) esc (fun j => (ops[j]?).bind (·.dst)) Q r K) a s → o.wp P aC w
          (wpOps P ops (fun e aC w => match e with | .normal => Up pr loc n m0 z K aC w | e => UpQ pr loc n m0 z Q e aC w) idx)
          (fun e aC w => match e with | .normal => Up pr loc n m0 z K aC w | e => UpQ pr loc n m0 z Q e aC w) := by
        intro hk
        have := opX_sound h hx hz o hok.1 hk
        refine Oper.wp_monoQ (Oper.wp_mono next this) ?_
        intro e hne aC w hq
        cases e <;> first | exact absurd rfl hne | exact hq
      have hd : dstOk n o.dst = true := by
        have := hok.1
        unfold opOk at this
        rw [Bool.and_eq_true] at this
        exact this.1
      unfold opsX gX at hk
      split at hk
      · rename_i hg
        have hw : Region.wanted o (yielded ops aC.tmps) = true := by simp [Region.wanted, hg]
        simp only [hw, if_true]
        exact .inl (go hk)
      · rename_i j want hg
        obtain ⟨b, hb, h1, h2⟩ := hk
        have hy := yielded_of h hb
        by_cases hbw : b = some want
        · have hw : Region.wanted o (yielded ops aC.tmps) = true := by simp [Region.wanted, hg, hy, hbw]
          simp only [hw, if_true]
          exact .inl (go (h1 hbw))
        · have hw : Region.wanted o (yielded ops aC.tmps) = false := by simp [Region.wanted, hg, hy, hbw]
          simp only [hw, Bool.false_eq_true, if_false]
          exact next _ _ ⟨_, s, m, lam, h2 hbw, h.put hd (.tuple .nil), hx, hz⟩
end
end Go.Proofs.Ytbcjgolkcfdnfaa.Sim
