import Derived.Test.YtbcjgolkcfdnfaaSimO
import Derived.Defers
import Derived.Recover
/- Sim, sixteenth text: functions. No condition. -/
namespace Go.Proofs.Ytbcjgolkcfdnfaa.Sim
open Go

def resOk (P : Program) (n : Nat) (loc : Nat → Bool) : ResultVar → Bool
  | .tmp t => opnd n loc false (.tmp t)
  | .cell t ty => sizeOk P ty && opnd n loc true (.tmp t)

def inL (l : List Nat) (i : Nat) : Bool := l.contains i

/-- Which slots may hold addresses of the function's own variables, by the text; so many rounds. -/
def locsOf (esc : List Nat) : Code → List Nat → List Nat
  | .region _ ops _, acc => ops.toList.foldl (fun acc o => match o.op, o.dst with
      | .alloc _, some d | .box _ _, some d => if esc.contains d || acc.contains d then acc else d :: acc
      | .fieldAddr _ (.tmp t) _, some d | .nilCheck (.tmp t), some d => if acc.contains t && !acc.contains d then d :: acc else acc
      | _, _ => acc) acc
  | .seq x y, acc => locsOf esc y (locsOf esc x acc)
  | .cond _ x y, acc => locsOf esc y (locsOf esc x acc)
  | .block _ c, acc | .loop c, acc | .scope c, acc => locsOf esc c acc
  | _, acc => acc

/-- A test of a function's text. -/
def fnOk (P : Program) (cfg : Cfg) (fn : Func) (c : Code) : Bool :=
  let loc := inL (locsOf cfg.esc c (locsOf cfg.esc c []))
  codeOk P fn.ntmps loc cfg c && fn.results.toList.all (resOk P fn.ntmps loc)

section
variable {P : Program} {pr : Pr} {loc : Nat → Bool} {n : Nat} {m m0 : Mu} {z : Nat} {lam : Lam} {a : A} {s : St} {aC : Act} {w : World} {cfg : Cfg}

def resOne (tmps : Array Value) : ResultVar → Sem Value
  | .tmp t => pure (tmps.getD t undef)
  | .cell a t => do loadVar t (← asAddr (tmps.getD a undef))

theorem run_loadAt_var {t : TypeId} {x : Value} {v : Value} (h : (Instr.loadAt t x).run P w = .ok v w) : (do loadVar t (← asAddr x) : Sem Value).run P w = .ok v w := by
  unfold Instr.loadAt at h
  rw [Sem.run_bind] at h ⊢
  unfold Instr.sureAddr at h
  split at h
  · simpa [asAddr] using h
  · simp at h

theorem res_sound (h : FR pr loc n m lam a s aC w) {K : Value → Prop} : ∀ (l : List ResultVar) (vs vs' : List Value), l.all (resOk P n loc) = true → VRs m vs vs' → resX P K a s l vs →
    ∃ us us', (l.mapM (resOne aC.tmps)).run P w = .ok us' w ∧ VRs m (vs ++ us) (vs' ++ us') ∧ K (tupX (vs ++ us))
  | [], vs, vs', _, hv, hk => ⟨[], [], rfl, by simpa using hv, by simpa [resX] using hk⟩
  | .tmp t :: l, vs, vs', hok, hv, hk => by
    simp only [List.all_cons, Bool.and_eq_true] at hok
    have hvt := h.ev (x := .tmp t) hok.1
    obtain ⟨us, us', h1, h2, h3⟩ := res_sound h l (vs ++ [a.t t]) (vs' ++ [aC.tmps.getD t undef]) hok.2 (hv.app (.cons hvt .nil)) hk
    refine ⟨a.t t :: us, aC.tmps.getD t undef :: us', ?_, by simpa using h2, by simpa using h3⟩
    simp only [List.mapM_cons, Sem.run_bind, resOne, Sem.run_pure, Result.andThen_ok, h1]
  | .cell t ty :: l, vs, vs', hok, hv, hk => by
    simp only [List.all_cons, Bool.and_eq_true, resOk] at hok
    obtain ⟨v, v', hkv, hvv, hrun⟩ := load_sound h (x := .tmp t) hok.1.1 hok.1.2 hk
    obtain ⟨us, us', h1, h2, h3⟩ := res_sound h l (vs ++ [v]) (vs' ++ [v']) hok.2 (hv.app (.cons hvv .nil)) hkv
    refine ⟨v :: us, v' :: us', ?_, by simpa using h2, by simpa using h3⟩
    have hone : (resOne aC.tmps (.cell t ty)).run P w = .ok v' w := run_loadAt_var hrun
    simp only [List.mapM_cons, Sem.run_bind, hone, Sem.run_pure, Result.andThen_ok, h1]

theorem results_sound (h : FR pr loc n m lam a s aC w) {K : Value → Prop} {fn : Func} (hok : fn.results.toList.all (resOk P n loc) = true) (hk : resX P K a s fn.results.toList []) :
    ∃ v v', (results fn aC.tmps).run P w = .ok v' w ∧ VR m v v' ∧ K v := by
  obtain ⟨us, us', h1, h2, h3⟩ := res_sound h fn.results.toList [] [] hok .nil hk
  simp only [List.nil_append] at h2 h3
  have hrun : (results fn aC.tmps).run P w = .ok (if h : us'.toArray.size = 1 then us'.toArray[0] else .tuple us'.toArray) w := by
    have he : results fn aC.tmps = (do let vs ← fn.results.mapM (resOne aC.tmps); pure (if h : vs.size = 1 then vs[0] else .tuple vs)) := by
      unfold results
      congr 1
    rw [he, Array.mapM_eq_mapM_toList, Sem.run_bind, Sem.run_map, h1]
    rfl
  refine ⟨_, _, hrun, ?_, h3⟩
  cases h2 with
  | nil => exact .tuple .nil
  | cons hh ht =>
    cases ht with
    | nil => exact hh
    | cons hh' ht' =>
      simp only [List.size_toArray, List.length_cons]
      rw [dif_neg (by omega)]
      exact .tuple (.cons hh (.cons hh' ht'))

/-- How a function leaves, told of the machine. -/
def MdR (m : Mu) : Md → FrameMode → Prop
  | .ret, um => um = .returning
  | .pan v, um => ∃ v', um = .panicking [{ v := v', recovered := false }] ∧ VR m v v'
  | .took, um => ∃ v', um = .panicking [{ v := v', recovered := true }]
theorem MdR.mono {m m' : Mu} (s : Sub m m') : ∀ {u : Md} {um : FrameMode}, MdR m u um → MdR m' u um
  | .ret, _, h => h
  | .pan _, _, ⟨v', h, hv⟩ => ⟨v', h, hv.mono s⟩
  | .took, _, h => h
theorem MdR.run {m : Mu} {u : Md} {um : FrameMode} (h : MdR m u um) : um ≠ .run := by
  cases u with
  | ret => have h : um = .returning := h; subst h; simp
  | pan v => obtain ⟨v', rfl, _⟩ := h; simp
  | took => obtain ⟨v', rfl⟩ := h; simp

/-- What is known of a deferred call. -/
def CallsDX (P : Program) (f : FuncId) (args : List Value) (u : Md) (s : St) (R : Rt → Md → St → Prop) : Prop :=
  ∀ (pr : Pr) (m : Mu) (w : World) (args' : List Value) (um : FrameMode), WR pr m s w → VRs m args args' → MdR m u um →
    CallsD P f args'.toArray um w fun e um' w' => ∃ r u' s' m', MdR m' u' um' ∧ RtR m' r e ∧ WR pr m' s' w' ∧ Ext m w.heap.size m' ∧ w.heap.size ≤ w'.heap.size ∧ R r u' s'

/-- How a function ends, told of the machine. -/
def EndR (pr : Pr) (m0 : Mu) (z : Nat) (R : Rt → St → Prop) (e : Ending) (w' : World) : Prop :=
  ∃ r s' m', RtR m' r e ∧ WR pr m' s' w' ∧ Ext m0 z m' ∧ z ≤ w'.heap.size ∧ R r s'

theorem run_invoke {f : FuncId} {args captured : Array Value} (hok : callB P f = true) : (invoke (.fn (.func f) captured) args).run P w = .ok (.enter f (args ++ captured)) w := by
  unfold invoke
  exact run_callFunc hok _

/-- The results of a function whose panic was taken back. -/
theorem resY_sound (h : PRel pr m a s aC w) {K : Value → Prop} : ∀ (l : List ResultVar) (vs vs' : List Value), l.all (resOk P n loc) = true → VRs m vs vs' → resY P K a s l vs →
    ∃ us us', (l.mapM (resOne aC.tmps)).run P w = .ok us' w ∧ VRs m (vs ++ us) (vs' ++ us') ∧ K (tupX (vs ++ us))
  | [], vs, vs', _, hv, hk => ⟨[], [], rfl, by simpa using hv, by simpa [resY] using hk⟩
  | .tmp t :: l, vs, vs', hok, hv, hk => hk.elim
  | .cell t ty :: l, vs, vs', hok, hv, hk => by
    simp only [List.all_cons, Bool.and_eq_true, resOk] at hok
    unfold resY at hk
    split at hk
    · rename_i i off he
      obtain ⟨rs, hrd, hk⟩ := hk
      have hvt : VR m (.pointer (some ⟨i, off, none⟩)) (aC.tmps.getD t undef) := by
        rcases h.tp t with hu | ⟨_, _, _, hu⟩ | hu
        · rw [he] at hu; cases hu
        · rw [he] at hu; cases hu
        · rw [he] at hu; exact hu
      generalize hρ : aC.tmps.getD t undef = u at hvt
      cases hvt with
      | @ptr _ _ p hp =>
        obtain ⟨q, vs1, hq, hvs, h1, hlen, hr, _⟩ := h.wr.rd hrd
        rw [hp] at hq; cases hq
        have hsz := (sizeOk_spec hok.1.1).2
        have hone : (resOne aC.tmps (.cell t ty)).run P w = .ok (valT P ty vs1) w := by
          refine run_loadAt_var (x := aC.tmps.getD t undef) ?_
          rw [hρ]
          exact run_loadT hok.1.1 hr (hvs.len ▸ hlen)
        obtain ⟨us, us', k1, k2, k3⟩ := resY_sound h l (vs ++ [valT P ty rs]) (vs' ++ [valT P ty vs1]) hok.2 (hv.app (.cons (VR.valT hvs h1 (hsz.imp id fun e => hlen.trans e)) .nil)) hk
        refine ⟨valT P ty rs :: us, valT P ty vs1 :: us', ?_, by simpa using k2, by simpa using k3⟩
        simp only [List.mapM_cons, Sem.run_bind, hone, Sem.run_pure, Result.andThen_ok, k1]
    · exact hk.elim

theorem run_results {fn : Func} {tmps : Array Value} {us us' : List Value} (h1 : (fn.results.toList.mapM (resOne tmps)).run P w = .ok us' w) (h2 : VRs m us us') :
    ∃ v', (results fn tmps).run P w = .ok v' w ∧ VR m (tupX us) v' := by
  have hrun : (results fn tmps).run P w = .ok (if h : us'.toArray.size = 1 then us'.toArray[0] else .tuple us'.toArray) w := by
    have he : results fn tmps = (do let vs ← fn.results.mapM (resOne tmps); pure (if h : vs.size = 1 then vs[0] else .tuple vs)) := by
      unfold results
      congr 1
    rw [he, Array.mapM_eq_mapM_toList, Sem.run_bind, Sem.run_map, h1]
    rfl
  refine ⟨_, hrun, ?_⟩
  cases h2 with
  | nil => exact .tuple .nil
  | cons hh ht =>
    cases ht with
    | nil => exact hh
    | cons hh' ht' =>
      simp only [List.size_toArray, List.length_cons]
      rw [dif_neg (by omega)]
      exact .tuple (.cons hh (.cons hh' ht'))

theorem resultsY_sound (h : PRel pr m a s aC w) {K : Value → Prop} {fn : Func} (hok : fn.results.toList.all (resOk P n loc) = true) (hk : resY P K a s fn.results.toList []) :
    ∃ v v', (results fn aC.tmps).run P w = .ok v' w ∧ VR m v v' ∧ K v := by
  obtain ⟨us, us', h1, h2, h3⟩ := resY_sound h fn.results.toList [] [] hok .nil hk
  simp only [List.nil_append] at h2 h3
  obtain ⟨v', hrun, hv⟩ := run_results h1 h2
  exact ⟨_, _, hrun, hv, h3⟩

theorem PRel.world (h : PRel pr m a s aC w) {m' : Mu} {s' : St} {w' : World} (hs : Sub m m') (hw : WR pr m' s' w') : PRel pr m' a s' aC w' where
  wr := hw
  df := h.df.mono hs
  tp := fun i => (h.tp i).imp id fun h => h.imp id fun h => h.mono hs

/-- A function leaves; F: what is known of its slots. -/
theorem leaves_sound {fn : Func} {R : Rt → St → Prop} {K : Md → St → Prop} (F : Mu → St → World → Prop) (hF : ∀ m s w, F m s w → ∃ pi, (∀ m' s' w', WR pi m' s' w' → Ext m w.heap.size m' → w.heap.size ≤ w'.heap.size → F m' s' w') ∧ WR pi m s w)
    (hK : ∀ m s w, F m s w → K .ret s → Ext m0 z m → z ≤ w.heap.size → ∃ v', (results fn aC.tmps).run P w = .ok v' w ∧ EndR pr m0 z R (.returned v') w)
    (hKp : ∀ v s, K (.pan v) s → R (.pan v) s) (hKt : ∀ s, K .took s → False) (hFw : ∀ m s w, F m s w → WR pr m s w) : ∀ (ds : List Df) (dsC : List Deferred) (u : Md) (um : FrameMode) (s : St) (m : Mu) (w : World),
    DR m ds dsC → F m s w → MdR m u um → Ext m0 z m → z ≤ w.heap.size → leavesX P (CallsDX P) K ds u s → Leaves P fn aC.tmps (EndR pr m0 z R) dsC um w
  | [], _, u, um, s, m, w, .nil, hf, hu, hx, hz, hk => by
    cases u with
    | ret =>
      have hu : um = .returning := hu
      subst hu
      exact hK m s w hf hk hx hz
    | pan v =>
      obtain ⟨v', rfl, hv⟩ := hu
      exact ⟨.pan v, s, m, ⟨v', rfl, hv⟩, hFw m s w hf, hx, hz, hKp _ _ hk⟩
    | took => exact (hKt _ hk).elim
  | d :: ds, _, u, um, s, m, w, .cons (args := args) (captured := captured) ha ht, hf, hu, hx, hz, hk => by
    obtain ⟨hok, hk⟩ := hk
    obtain ⟨pi, hkeep, hw⟩ := hF m s w hf
    have hc := hk pi m w _ um hw ha hu
    have e : (args.toList ++ captured.toList).toArray = args ++ captured := by apply Array.toList_inj.1; simp
    rw [e] at hc
    refine leaves_cons hu.run (run_invoke hok) (CallsD.mono hc ?_)
    rintro e um' w' ⟨r, u', s', m', hu', hr, hwr, hext, hsz, hk⟩
    have hf' := hkeep m' s' w' hwr hext hsz
    have go : ∀ (u : Md) (um : FrameMode), MdR m' u um → leavesX P (CallsDX P) K ds u s' → Leaves P fn aC.tmps (EndR pr m0 z R) _ um w' := fun u um hu hk =>
      leaves_sound F hF hK hKp hKt hFw ds _ u um s' m' w' (ht.mono hext.1) hf' hu (hx.trans hext hz) (Nat.le_trans hz hsz) hk
    cases r with
    | ret v =>
      cases e with
      | returned v' =>
        cases u' with
        | ret =>
          have hu' : um' = .returning := hu'
          subst hu'
          exact go .ret _ rfl hk
        | pan v =>
          obtain ⟨v', rfl, hv⟩ := hu'
          exact go (.pan v) _ ⟨v', rfl, hv⟩ hk
        | took =>
          obtain ⟨v', rfl⟩ := hu'
          exact go .ret _ rfl hk
      | panicked c => exact hr.elim
      | outgrown => exact hr.elim
    | pan v =>
      cases e with
      | returned v' => exact hr.elim
      | panicked c =>
        obtain ⟨v', rfl, hv⟩ := hr
        cases u' with
        | ret =>
          have hu' : um' = .returning := hu'
          subst hu'
          exact go (.pan v) _ ⟨v', rfl, hv⟩ hk
        | pan v => exact hk.elim
        | took => exact hk.elim
      | outgrown => exact hr.elim

theorem fn_wp {fn : Func} {loc : Nat → Bool}
    {args args' : List Value} (hargs : Nat.ble args.length fn.ntmps = true) (hw : WR pr m s w) (ha : VRs m args args') :
    FR pr loc fn.ntmps m (fun _ _ => none) (A.init args) s { tmps := args'.toArray ++ Array.replicate (fn.ntmps - args'.toArray.size) undef, defers := [] } w := by
  have hlen : args'.length = args.length := ha.len.symm
  have hle : args.length ≤ fn.ntmps := Nat.le_of_ble_eq_true hargs
  have ht : ∀ i, VR m ((A.init args).t i) ((args'.toArray ++ Array.replicate (fn.ntmps - args'.toArray.size) undef).getD i undef) := by
    intro i
    simp only [A.init, Array.getD_eq_getD_getElem?, List.getD_eq_getElem?_getD]
    cases hi : args[i]? with
    | some v =>
      obtain ⟨v', hv', hr⟩ := ha.get i v hi
      have : (args'.toArray ++ Array.replicate (fn.ntmps - args'.toArray.size) undef)[i]? = some v' := by
        rw [Array.getElem?_append_left (by have := (List.getElem?_eq_some_iff.1 hv').1; simpa using this)]
        simpa using hv'
      rw [this]
      exact hr
    | none =>
      have hge : args.length ≤ i := by simpa using hi
      have : (args'.toArray ++ Array.replicate (fn.ntmps - args'.toArray.size) undef)[i]?.getD undef = undef := by
        rw [Array.getElem?_append_right (by simp; omega)]
        rw [Array.getElem?_replicate]
        split <;> rfl
      rw [this]
      exact .tuple .nil
  exact {
    wr := hw
    lr := { cur := fun _ _ _ h => by (simp [A.init] at h), far := fun _ _ _ h => by (cases h), old := fun _ _ _ h => by (cases h), inj := fun _ _ _ _ _ _ _ h => by (simp [A.init] at h) }
    sz := by simp; omega
    tm := fun i _ => ht i
    tl := fun i _ => .inl (ht i)
    df := .nil }

/-- What the text of a function says is known of its calls. -/
theorem fn_sound (hmix : P.follows .mixedOrders = true) {f : FuncId} {fn : Func} {c : Code} (cfg : Cfg) (hf : P.funcs[f]? = some fn) (hb : fn.body = some c) (hok : fnOk P cfg fn c = true)
    {args : List Value} (hargs : Nat.ble args.length fn.ntmps = true) {s : St} {R : Rt → St → Prop} (h : codeX P (CallsX P) cfg c (bodyX P (CallsDX P) fn R) (A.init args) s) : CallsX P f args s R := by
  simp only [fnOk, Bool.and_eq_true] at hok
  generalize inL (locsOf cfg.esc c (locsOf cfg.esc c [])) = loc at hok
  intro pr m w args' hw ha
  refine calls_of_wp_defers hf hb (wp_mono (codeX_sound (pr := pr) (loc := loc) (n := fn.ntmps) (m0 := m) (z := w.heap.size) (cfg := cfg) hmix c _ (A.init args) s _ w m (fun _ _ => none) hok.1 (fn_wp hargs hw ha) (Ext.refl m _) (Nat.le_refl _) h) ?_)
  intro e aC w' hq
  have hN : Up pr loc fn.ntmps m w.heap.size (fun a s => leavesX P (CallsDX P) (fun u s => match u with | .ret => resX P (fun v => R (.ret v) s) a s fn.results.toList [] | .pan v => R (.pan v) s | .took => False) a.d .ret s) aC w' →
      Leaves P fn aC.tmps (EndR pr m w.heap.size R) aC.defers .returning w' := by
    rintro ⟨a, s, m', lam, hk, hfr, hx, hz⟩
    refine leaves_sound (u := .ret) (fun m s w => FR pr loc fn.ntmps m lam a s aC w) ?_ ?_ (fun _ _ h => h) (fun _ h => h) (fun m s w h => h.wr) a.d aC.defers .returning s m' w' hfr.df hfr rfl hx hz hk
    · exact fun m s w h => ⟨prL pr a lam w, fun m' s' w' hw hx hz => h.after hw hx hz, h.inner⟩
    · intro m s w h hk hx hz
      obtain ⟨v, v', h1, h2, h3⟩ := results_sound h hok.2 hk
      exact ⟨v', h1, .ret v, s, m, h2, h.wr, hx, hz, h3⟩
  cases e with
  | normal => exact hN hq
  | ret => exact hN hq
  | panic ch =>
    obtain ⟨a, s, m', v, v', rfl, hv, hk, hp, hx, hz⟩ := hq
    refine leaves_sound (u := .pan v) (fun m s w => PRel pr m a s aC w) ?_ ?_ (fun _ _ h => h) (fun _ h => h) (fun m s w h => h.wr) a.d aC.defers _ s m' w' hp.df hp ⟨v', rfl, hv⟩ hx hz hk
    · exact fun m s w h => ⟨pr, fun m' s' w' hw hx hz => h.world hx.1 hw, h.wr⟩
    · intro m s w h hk hx hz
      obtain ⟨v, v', h1, h2, h3⟩ := resultsY_sound h hok.2 hk
      exact ⟨v', h1, .ret v, s, m, h2, h.wr, hx, hz, h3⟩
  | exit id => obtain ⟨_, _, _, _, hk, _⟩ := hq; exact hk.elim
  | goto l => exact hq.elim
  | outgrown => exact hq.elim

/-! ### Functions that are put off -/
/-- What is known of a function that is put off, where a piece of it has been gone through. -/
def UpR (pr : Pr) (loc : Nat → Bool) (n : Nat) (m0 : Mu) (z : Nat) (c0 : Frame) (cs : List Frame) (Q : Md → Ex → A → St → Prop) (e : Exit) (aC : Act) (cs' : List Frame) (w : World) : Prop :=
  ∃ u um, cs' = { c0 with mode := um } :: cs ∧ MdR m0 u um ∧ UpQ pr loc n m0 z (Q u) e aC w

theorem run_recover {o : Oper} (h : isRec o = true) : (execOp aC.eval o).run P w = .ok .recover w ∧ o.guard = none := by
  unfold isRec at h
  split at h
  · rename_i args tys he
    simp only [Bool.and_eq_true, Array.isEmpty_iff, Option.isNone_iff_eq_none] at h
    refine ⟨?_, h.2⟩
    obtain ⟨rfl, _⟩ := h
    simp [execOp, he]
    rfl
  · cases h

theorem opsR_sound {ops : Array Oper} {Q : Md → Ex → A → St → Prop} {c0 : Frame} {cs : List Frame} : ∀ (os : List Oper) (l : List Nat), l.map (ops[·]?) = os.map some → opsOk P n loc cfg.esc (os.filter fun o => !isRec o) = true →
    (∀ o ∈ os, isRec o = true → dstOk n o.dst = true) →
    ∀ (u : Md) (um : FrameMode) (a : A) (s : St) (aC : Act) (w : World) (m : Mu) (lam : Lam), FR pr loc n m lam a s aC w → Ext m0 z m → z ≤ w.heap.size → MdR m0 u um →
    opsR P (CallsX P) cfg.esc (fun j => (ops[j]?).bind (·.dst)) Q os u a s →
    wpOpsS P ops (UpR pr loc n m0 z c0 cs Q) l aC ({ c0 with mode := um } :: cs) w
  | [], l, hl, _, _, u, um, a, s, aC, w, m, lam, h, hx, hz, hu, hk => by
    have : l = [] := by simpa using hl
    subst this
    exact ⟨u, um, rfl, hu, a, s, m, lam, hk, h, hx, hz⟩
  | o :: os, l, hl, hok, hds, u, um, a, s, aC, w, m, lam, h, hx, hz, hu, hk => by
    cases l with
    | nil => simp at hl
    | cons i l =>
    simp only [List.map_cons, List.cons.injEq] at hl
    obtain ⟨hi, hl⟩ := hl
    unfold opsR at hk
    unfold wpOpsS
    rw [hi]
    simp only
    cases hr : isRec o with
    | true =>
      rw [hr] at hk
      simp only [cond_true] at hk
      obtain ⟨hrun, hg⟩ := run_recover (aC := aC) (P := P) (w := w) hr
      have hd := hds o (by simp) hr
      have hw : Region.wanted o (yielded ops aC.tmps) = true := by unfold Region.wanted; rw [hg]
      rw [if_pos hw, hrun]
      simp only
      have hok' : opsOk P n loc cfg.esc (os.filter fun o => !isRec o) = true := by
        have : (o :: os).filter (fun o => !isRec o) = os.filter fun o => !isRec o := by simp [hr]
        rw [this] at hok; exact hok
      have hds' : ∀ o ∈ os, isRec o = true → dstOk n o.dst = true := fun o ho => hds o (by simp [ho])
      cases u with
      | ret =>
        have hu : um = .returning := hu
        subst hu
        simp only [recoverD]
        exact opsR_sound os l hl hok' hds' .ret _ _ s _ w m lam (h.put hd .nilIface) hx hz rfl hk
      | took =>
        obtain ⟨v', rfl⟩ := hu
        simp only [recoverD]
        exact opsR_sound os l hl hok' hds' .took _ _ s _ w m lam (h.put hd .nilIface) hx hz ⟨v', rfl⟩ hk
      | pan v =>
        obtain ⟨v', rfl, hv⟩ := hu
        simp only [recoverD]
        exact opsR_sound os l hl hok' hds' .took _ _ s _ w m lam (h.put hd (hv.mono hx.1)) hx hz ⟨v', rfl⟩ hk
    | false =>
      rw [hr] at hk
      simp only [cond_false] at hk
      have hok0 := hok
      rw [List.filter_cons_of_pos (by simp [hr])] at hok
      simp only [opsOk, List.all_cons, Bool.and_eq_true] at hok
      have hds' : ∀ o ∈ os, isRec o = true → dstOk n o.dst = true := fun o ho => hds o (by simp [ho])
      have hnext : ∀ aC' w', Up pr loc n m0 z (fun a s => opsR P (CallsX P) cfg.esc (fun j => (ops[j]?).bind (·.dst)) Q os u a s) aC' w' → wpOpsS P ops (UpR pr loc n m0 z c0 cs Q) l aC' ({ c0 with mode := um } :: cs) w' := by
        rintro aC' w' ⟨a', s', m', lam', hk', h', hx', hz'⟩
        exact opsR_sound os l hl (by simpa [opsOk] using hok.2) hds' u um a' s' aC' w' m' lam' h' hx' hz' hu hk'
      have hop : opX P (CallsX P) cfg.esc o (Q u) (fun a s => opsR P (CallsX P) cfg.esc (fun j => (ops[j]?).bind (·.dst)) Q os u a s) a s →
          (match (execOp aC.eval o).run P w with
          | .ok .recover w' =>
            match recoverD ({ c0 with mode := um } :: cs) with
            | some (v, cs') => wpOpsS P ops (UpR pr loc n m0 z c0 cs Q) l (aC.put o.dst v) cs' w'
            | none => wpOpsS P ops (UpR pr loc n m0 z c0 cs Q) l (aC.put o.dst .nilIface) ({ c0 with mode := um } :: cs) w'
          | r => o.upon P aC (fun a' w' => wpOpsS P ops (UpR pr loc n m0 z c0 cs Q) l a' ({ c0 with mode := um } :: cs) w') (fun e a' w' => UpR pr loc n m0 z c0 cs Q e a' ({ c0 with mode := um } :: cs) w') r) := by
        intro hk
        have := opX_sound h hx hz o hok.1 hk
        have h1 : o.wp P aC w (fun a' w' => wpOpsS P ops (UpR pr loc n m0 z c0 cs Q) l a' ({ c0 with mode := um } :: cs) w') (fun e a' w' => UpR pr loc n m0 z c0 cs Q e a' ({ c0 with mode := um } :: cs) w') :=
          Oper.wp_mono hnext (Oper.wp_monoQ this fun e _ a' w' he => ⟨u, um, rfl, hu, he⟩)
        unfold Oper.wp at h1
        split
        · rename_i w' hrun
          rw [hrun] at h1
          exact h1.elim
        · exact h1
      unfold gX at hk
      cases hg : o.guard with
      | none =>
        rw [hg] at hk
        have hw : Region.wanted o (yielded ops aC.tmps) = true := by unfold Region.wanted; rw [hg]
        rw [if_pos hw]
        exact hop hk
      | some jw =>
        obtain ⟨j, want⟩ := jw
        rw [hg] at hk
        simp only at hk
        obtain ⟨b, hb, h1, h2⟩ := hk
        have hy : yielded ops aC.tmps j = b := yielded_of h hb
        by_cases hbw : b = some want
        · have hw : Region.wanted o (yielded ops aC.tmps) = true := by unfold Region.wanted; rw [hg]; simp [hy, hbw]
          rw [if_pos hw]
          exact hop (h1 hbw)
        · have hw : ¬ Region.wanted o (yielded ops aC.tmps) = true := by unfold Region.wanted; rw [hg]; simp [hy, hbw]
          rw [if_neg hw]
          refine hnext _ _ ⟨_, s, m, lam, h2 hbw, h.put ?_ (.tuple .nil), hx, hz⟩
          have := hok.1
          unfold opOk at this
          rw [Bool.and_eq_true] at this
          exact this.1

/-- A test of the text of a function that is put off. -/
def codeRok (P : Program) (n : Nat) (loc : Nat → Bool) (cfg : Cfg) : Code → Bool
  | .seq x y => codeRok P n loc cfg x && codeRok P n loc cfg y
  | .region _ ops false => opsOk P n loc cfg.esc (ops.toList.filter fun o => !isRec o) && ops.toList.all (fun o => !isRec o || dstOk n o.dst)
  | c => codeOk P n loc cfg c
def fnRok (P : Program) (cfg : Cfg) (fn : Func) (c : Code) : Bool :=
  let loc := inL (locsOf cfg.esc c (locsOf cfg.esc c []))
  codeRok P fn.ntmps loc cfg c && fn.results.toList.all (resOk P fn.ntmps loc)

theorem UpR.mono {Q Q' : Md → Ex → A → St → Prop} {c0 : Frame} {cs : List Frame} {e : Exit} {aC : Act} {cs' : List Frame} {w : World} (h : UpR pr loc n m0 z c0 cs Q e aC cs' w) (hq : ∀ u ex a s, Q u ex a s → Q' u ex a s) : UpR pr loc n m0 z c0 cs Q' e aC cs' w := by
  obtain ⟨u, um, h1, h2, h3⟩ := h
  refine ⟨u, um, h1, h2, ?_⟩
  cases e with
  | normal => exact Up.mono (fun a s => hq u _ a s) h3
  | exit id => exact Up.mono (fun a s => hq u _ a s) h3
  | ret => exact Up.mono (fun a s => hq u _ a s) h3
  | panic c =>
    obtain ⟨a, s, m, v, v', e, hv, hk, r⟩ := h3
    exact ⟨a, s, m, v, v', e, hv, hq u _ a s hk, r⟩
  | goto l => exact h3
  | outgrown => exact h3

theorem codeR_other (hmix : P.follows .mixedOrders = true) {c : Code} {Q : Md → Ex → A → St → Prop} {u : Md} {um : FrameMode} {c0 : Frame} {cs : List Frame} (hok : codeOk P n loc cfg c = true)
    (h : FR pr loc n m lam a s aC w) (hx : Ext m0 z m) (hz : z ≤ w.heap.size) (hu : MdR m0 u um) (hk : codeX P (CallsX P) cfg c (Q u) a s) :
    c.wpS P (UpR pr loc n m0 z c0 cs Q) aC ({ c0 with mode := um } :: cs) w :=
  wpS_of_wp (wp_mono (codeX_sound hmix c (Q u) a s aC w m lam hok h hx hz hk) fun _ _ _ he => ⟨u, um, rfl, hu, he⟩)

theorem codeR_sound (hmix : P.follows .mixedOrders = true) {c0 : Frame} {cs : List Frame} : ∀ (c : Code) (Q : Md → Ex → A → St → Prop) (u : Md) (um : FrameMode) (a : A) (s : St) (aC : Act) (w : World) (m : Mu) (lam : Lam), codeRok P n loc cfg c = true →
    FR pr loc n m lam a s aC w → Ext m0 z m → z ≤ w.heap.size → MdR m0 u um → codeR P (CallsX P) cfg c Q u a s → c.wpS P (UpR pr loc n m0 z c0 cs Q) aC ({ c0 with mode := um } :: cs) w := by
  intro c
  induction c with
  | seq x y ihx ihy =>
    intro Q u um a s aC w m lam hok h hx hz hu hk
    simp only [codeRok, Bool.and_eq_true] at hok
    have h1 := ihx _ u um a s aC w m lam hok.1 h hx hz hu hk
    refine wpS_seq ?_
    intro b k hb hr
    obtain ⟨e, a', cs', w', hq, harr⟩ := h1 b k hb hr
    refine ⟨e, a', cs', w', ?_, harr⟩
    cases e with
    | normal =>
      obtain ⟨u', um', rfl, hu', a2, s2, m2, lam2, hk2, hf2, hx2, hz2⟩ := hq
      exact ihy Q u' um' a2 s2 a' w' m2 lam2 hok.2 hf2 hx2 hz2 hu' hk2
    | exit id => exact hq
    | ret => exact hq
    | panic c => exact hq
    | goto l => exact hq
    | outgrown => exact hq
  | region id ops d =>
    intro Q u um a s aC w m lam hok h hx hz hu hk
    cases d with
    | true => exact codeR_other hmix hok h hx hz hu hk
    | false =>
      simp only [codeRok, Bool.and_eq_true, List.all_eq_true] at hok
      have hidx : (List.range ops.size).map (ops[·]?) = ops.toList.map some := by
        apply List.ext_getElem?
        intro i
        simp only [List.getElem?_map]
        by_cases hi : i < ops.size
        · simp [hi]
        · simp [hi]
      refine wpS_region (opsR_sound ops.toList (List.range ops.size) hidx hok.1 (fun o ho hr => ?_) u um a s aC w m lam h hx hz hu hk)
      have := hok.2 o ho
      simpa [hr] using this
  | skip => exact fun Q u um a s aC w m lam hok h hx hz hu hk => codeR_other hmix hok h hx hz hu hk
  | label l => exact fun Q u um a s aC w m lam hok h hx hz hu hk => codeR_other hmix hok h hx hz hu hk
  | exit id => exact fun Q u um a s aC w m lam hok h hx hz hu hk => codeR_other hmix hok h hx hz hu hk
  | ret => exact fun Q u um a s aC w m lam hok h hx hz hu hk => codeR_other hmix hok h hx hz hu hk
  | cond c x y _ _ => exact fun Q u um a s aC w m lam hok h hx hz hu hk => codeR_other hmix hok h hx hz hu hk
  | block id c _ => exact fun Q u um a s aC w m lam hok h hx hz hu hk => codeR_other hmix hok h hx hz hu hk
  | loop c _ => exact fun Q u um a s aC w m lam hok h hx hz hu hk => codeR_other hmix hok h hx hz hu hk
  | rangeFunc _ _ _ _ _ _ => exact fun Q u um a s aC w m lam hok h hx hz hu hk => codeR_other hmix hok h hx hz hu hk
  | scope c _ => exact fun Q u um a s aC w m lam hok h hx hz hu hk => codeR_other hmix hok h hx hz hu hk
  | goto _ => exact fun Q u um a s aC w m lam hok h hx hz hu hk => codeR_other hmix hok h hx hz hu hk
  | refuse _ => exact fun Q u um a s aC w m lam hok h hx hz hu hk => codeR_other hmix hok h hx hz hu hk

/-- What the text of a function that is put off says is known of its deferred calls. -/
theorem fn_soundD (hmix : P.follows .mixedOrders = true) {f : FuncId} {fn : Func} {c : Code} (cfg : Cfg) (hf : P.funcs[f]? = some fn) (hb : fn.body = some c) (hok : fnRok P cfg fn c = true)
    {args : List Value} (hargs : Nat.ble args.length fn.ntmps = true) {u : Md} {s : St} {R : Rt → Md → St → Prop} (h : codeR P (CallsX P) cfg c (bodyR P fn R) u (A.init args) s) : CallsDX P f args u s R := by
  simp only [fnRok, Bool.and_eq_true] at hok
  generalize inL (locsOf cfg.esc c (locsOf cfg.esc c [])) = loc at hok
  intro pr m w args' um hw ha hu
  refine callsD_of_wpS hf hb fun c0 cs hc0 => ?_
  have hself : (c0 :: cs) = ({ c0 with mode := um } :: cs) := by subst hc0; rfl
  rw [hself]
  have key := codeR_sound (pr := pr) (loc := loc) (n := fn.ntmps) (m0 := m) (z := w.heap.size) (cfg := cfg) (c0 := c0) (cs := cs) hmix c _ u um (A.init args) s _ w m (fun _ _ => none) hok.1 (fn_wp hargs hw ha) (Ext.refl m _) (Nat.le_refl _) hu h
  intro b k hb hr
  obtain ⟨e, aC, cs', w', hq, harr⟩ := key b k hb hr
  refine ⟨e, aC, cs', w', ?_, harr⟩
  obtain ⟨u', um', rfl, hu', hq⟩ := hq
  have hret : Up pr loc fn.ntmps m w.heap.size (fun a s => a.d = [] ∧ resX P (fun v => R (.ret v) u' s) a s fn.results.toList []) aC w' →
      aC.defers = [] ∧ ∃ um'', ({ c0 with mode := um' } :: cs : List Frame) = { c0 with mode := um'' } :: cs ∧ ∃ v, (results fn aC.tmps).run P w' = .ok v w' ∧
        ∃ r u s' m', MdR m' u um'' ∧ RtR m' r (.returned v) ∧ WR pr m' s' w' ∧ Ext m w.heap.size m' ∧ w.heap.size ≤ w'.heap.size ∧ R r u s' := by
    rintro ⟨a, s, m', lam, ⟨hd, hk⟩, hfr, hx, hz⟩
    obtain ⟨v, v', h1, h2, h3⟩ := results_sound hfr hok.2 hk
    refine ⟨?_, um', rfl, v', h1, .ret v, u', s, m', hu'.mono hx.1, h2, hfr.wr, hx, hz, h3⟩
    have := hfr.df
    rw [hd] at this
    generalize aC.defers = dd at this
    cases this
    rfl
  cases e with
  | normal => exact hret hq
  | ret => exact hret hq
  | panic ch =>
    obtain ⟨a, s, m', v, v', rfl, hv, ⟨hd, hk⟩, hp, hx, hz⟩ := hq
    refine ⟨?_, um', rfl, .pan v, u', s, m', hu'.mono hx.1, ⟨v', rfl, hv⟩, hp.wr, hx, hz, hk⟩
    have := hp.df
    rw [hd] at this
    generalize aC.defers = dd at this
    cases this
    rfl
  | exit id => obtain ⟨_, _, _, _, hk, _⟩ := hq; cases u' <;> exact hk.elim
  | goto l => exact hq.elim
  | outgrown => exact hq.elim
end
end Go.Proofs.Ytbcjgolkcfdnfaa.Sim
