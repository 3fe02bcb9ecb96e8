import Derived.Test.YtbcjgolkcfdnfaaSimT
/- Sim, twenty-first text: functions, run by a program; closed runs from any memory. No condition. -/
noncomputable section
namespace Go.Proofs.Ytbcjgolkcfdnfaa.Sim
open Go

def EA.initT : List Value → Nat → Tr Value → Tr Value
  | [], _, t => t
  | v :: r, i, t => EA.initT r (i + 1) (t.set i (some v))
def EA.init (args : List Value) : EA := { t := EA.initT args 0 .nil, l := .nil, d := [] }
theorem EA.initT_get : ∀ (l : List Value) (i : Nat) (t : Tr Value) (j : Nat), (EA.initT l i t).get j = if i ≤ j ∧ j < i + l.length then l[j - i]? else t.get j
  | [], i, t, j => by
    rw [if_neg (by simp only [List.length_nil]; omega)]
    rfl
  | v :: r, i, t, j => by
    unfold EA.initT
    rw [EA.initT_get r (i + 1) _ j, Tr.get_set]
    by_cases h : i + 1 ≤ j ∧ j < i + 1 + r.length
    · rw [if_pos h, if_pos (by simp; omega)]
      obtain ⟨k, rfl⟩ : ∃ k, j = i + 1 + k := ⟨j - (i + 1), by omega⟩
      rw [show i + 1 + k - i = k + 1 by omega, show i + 1 + k - (i + 1) = k by omega]
      simp
    · rw [if_neg h]
      by_cases hj : j = i
      · subst hj
        rw [if_pos rfl, if_pos (by simp)]
        simp
      · rw [if_neg hj, if_neg (by simp; omega)]
theorem EA.init_toA (args : List Value) : (EA.init args).toA = A.init args := by
  refine A.ext' (fun i => ?_) (fun _ => rfl) rfl
  show ((EA.initT args 0 .nil).get i).getD undef = args.getD i undef
  rw [EA.initT_get]
  by_cases h : i < args.length
  · rw [if_pos (by omega)]
    simp [List.getD_eq_getElem?_getD]
  · rw [if_neg (by omega)]
    simp [List.getD_eq_getElem?_getD, List.getElem?_eq_none (Nat.le_of_not_lt h), Tr.get_nil]

abbrev DE := FuncId → List Value → Md → ES → Option (Rt × Md × ES)

section
variable (P : Program)

def evLeave (D : DE) (fin : Md → ES → Option (Rt × ES)) : List Df → Md → ES → Option (Rt × ES)
  | [], u, e => fin u e
  | d :: r, u, e => cond (callB P d.f)
      (match D d.f d.args u e with
      | some (.ret _, .took, e') => evLeave D fin r .ret e'
      | some (.ret _, .ret, e') => evLeave D fin r .ret e'
      | some (.ret _, .pan v, e') => evLeave D fin r (.pan v) e'
      | some (.pan v, .ret, e') => evLeave D fin r (.pan v) e'
      | _ => none) none

def evBody (D : DE) (fn : Func) : RE → Option (Rt × ES)
  | some (.normal, a, e) | some (.ret, a, e) => evLeave P D (fun u e => match u with | .ret => (evRes P a e fn.results.toList []).map fun v => (.ret v, e) | .pan v => some (.pan v, e) | .took => none) a.d .ret e
  | some (.pan v, a, e) => evLeave P D (fun u e => match u with | .ret => (evResY P a e fn.results.toList []).map fun v => (.ret v, e) | .pan v => some (.pan v, e) | .took => none) a.d (.pan v) e
  | _ => none
def evBodyR (fn : Func) : Option (Md × Ex × EA × ES) → Option (Rt × Md × ES)
  | some (u, .normal, a, e) | some (u, .ret, a, e) => match a.d with | [] => (evRes P a e fn.results.toList []).map fun v => (.ret v, u, e) | _ => none
  | some (u, .pan v, a, e) => match a.d with | [] => some (.pan v, u, e) | _ => none
  | _ => none

/-- A deferred call. -/
def evDef (call : CE) (k : Nat) : DE := fun f args u e =>
  match P.funcs[f]? with
  | some fn =>
    match fn.body with
    | some c => cond (fnRok P (autoCfg P fn c) fn c && Nat.ble args.length fn.ntmps) (evBodyR P fn (evCodeR P call (autoCfg P fn c) k c u (EA.init args) e)) none
    | none => none
  | none => none

/-- A call; X: functions that are run in another way; k: so many rounds of a loop at most; so many calls within one another. -/
def evFn (X : FuncId → Option (CE → List Value → ES → Option (Rt × ES))) (k : Nat) : Nat → CE
  | 0, _, _, _ => none
  | n + 1, f, args, e =>
    match X f with
    | some x => x (evFn X k n) args e
    | none =>
      match P.funcs[f]? with
      | some fn =>
        match fn.body with
        | some c => cond (fnOk P (autoCfg P fn c) fn c && Nat.ble args.length fn.ntmps)
            (evBody P (evDef P (evFn X k n) k) fn (evCode P (evFn X k n) (autoCfg P fn c) k c (EA.init args) e)) none
        | none => none
      | none => none
end

section
variable {P : Program}

/-- Deferred calls that are run tell what holds of deferred calls. -/
def DSound (D : FuncId → List Value → Md → St → (Rt → Md → St → Prop) → Prop) (d : DE) : Prop :=
  ∀ f args u e r u' e', d f args u e = some (r, u', e') → ∀ R : Rt → Md → St → Prop, R r u' e'.toSt → D f args u e.toSt R

theorem evLeave_sound {D : FuncId → List Value → Md → St → (Rt → Md → St → Prop) → Prop} {d : DE} (hd : DSound D d) {fin : Md → ES → Option (Rt × ES)} {K : Md → St → Prop} {r : Rt} {e' : ES}
    (hf : ∀ u e, fin u e = some (r, e') → K u e.toSt) : ∀ (l : List Df) (u : Md) (e : ES), evLeave P d fin l u e = some (r, e') → leavesX P D K l u e.toSt
  | [], u, e, h => hf u e h
  | x :: l, u, e, h => by
    unfold evLeave at h
    unfold leavesX
    cases hb : callB P x.f with
    | false => simp [hb] at h
    | true =>
      simp only [hb, cond_true] at h
      refine ⟨rfl, ?_⟩
      split at h
      · rename_i v e1 h1
        exact hd _ _ _ _ _ _ _ h1 _ (evLeave_sound hd hf l _ e1 h)
      · rename_i v e1 h1
        exact hd _ _ _ _ _ _ _ h1 _ (evLeave_sound hd hf l _ e1 h)
      · rename_i v w e1 h1
        exact hd _ _ _ _ _ _ _ h1 _ (evLeave_sound hd hf l _ e1 h)
      · rename_i v e1 h1
        exact hd _ _ _ _ _ _ _ h1 _ (evLeave_sound hd hf l _ e1 h)
      · cases h

theorem evBody_sound {D : FuncId → List Value → Md → St → (Rt → Md → St → Prop) → Prop} {d : DE} (hd : DSound D d) {fn : Func} {x : RE} {r : Rt} {e' : ES} (h : evBody P d fn x = some (r, e')) {R : Rt → St → Prop} (hr : R r e'.toSt) :
    ∃ y, x = some y ∧ bodyX P D fn R y.1 y.2.1.toA y.2.2.toSt := by
  have hn : ∀ (a : EA) (e : ES), evLeave P d (fun u e => match u with | .ret => (evRes P a e fn.results.toList []).map fun v => (.ret v, e) | .pan v => some (.pan v, e) | .took => none) a.d .ret e = some (r, e') →
      leavesX P D (fun u s => match u with | .ret => resX P (fun v => R (.ret v) s) a.toA s fn.results.toList [] | .pan v => R (.pan v) s | .took => False) a.toA.d .ret e.toSt := by
    intro a e h
    refine evLeave_sound hd ?_ _ _ _ h
    intro u e hu
    cases u with
    | ret =>
      simp only [Option.map_eq_some_iff, Prod.mk.injEq] at hu
      obtain ⟨v, h1, rfl, rfl⟩ := hu
      exact evRes_sound _ _ _ h1 hr
    | pan v => cases hu; exact hr
    | took => cases hu
  unfold evBody at h
  split at h
  · exact ⟨_, rfl, hn _ _ h⟩
  · exact ⟨_, rfl, hn _ _ h⟩
  · refine ⟨_, rfl, evLeave_sound hd ?_ _ _ _ h⟩
    intro u e hu
    cases u with
    | ret =>
      simp only [Option.map_eq_some_iff, Prod.mk.injEq] at hu
      obtain ⟨v, h1, rfl, rfl⟩ := hu
      exact evResY_sound _ _ _ h1 hr
    | pan v => cases hu; exact hr
    | took => cases hu
  · cases h

theorem evBodyR_sound {fn : Func} {x : Option (Md × Ex × EA × ES)} {r : Rt} {u' : Md} {e' : ES} (h : evBodyR P fn x = some (r, u', e')) {R : Rt → Md → St → Prop} (hr : R r u' e'.toSt) :
    ∃ y, x = some y ∧ bodyR P fn R y.1 y.2.1 y.2.2.1.toA y.2.2.2.toSt := by
  have hn : ∀ (u : Md) (a : EA) (e : ES), (match a.d with | [] => (evRes P a e fn.results.toList []).map fun v => (Rt.ret v, u, e) | _ => none) = some (r, u', e') →
      a.toA.d = [] ∧ resX P (fun v => R (.ret v) u e.toSt) a.toA e.toSt fn.results.toList [] := by
    intro u a e h
    split at h
    · rename_i hd
      simp only [Option.map_eq_some_iff, Prod.mk.injEq] at h
      obtain ⟨v, h1, rfl, rfl, rfl⟩ := h
      exact ⟨hd, evRes_sound _ _ _ h1 hr⟩
    · cases h
  unfold evBodyR at h
  split at h
  · exact ⟨_, rfl, hn _ _ _ h⟩
  · exact ⟨_, rfl, hn _ _ _ h⟩
  · split at h
    · rename_i hd
      cases h
      exact ⟨_, rfl, hd, hr⟩
    · cases h
  · cases h

theorem evDef_sound (hmix : P.follows .mixedOrders = true) {call : CE} (hc : CSound (CallsX P) call) {k : Nat} : DSound (CallsDX P) (evDef P call k) := by
  intro f args u e r u' e' h R hr
  unfold evDef at h
  split at h
  · rename_i fn hf
    split at h
    · rename_i c hb
      cases hok : (fnRok P (autoCfg P fn c) fn c && Nat.ble args.length fn.ntmps) with
      | false => rw [hok] at h; cases h
      | true =>
        rw [hok] at h
        simp only [cond_true] at h
        rw [Bool.and_eq_true] at hok
        obtain ⟨y, hy, hbody⟩ := evBodyR_sound h hr
        refine fn_soundD hmix (autoCfg P fn c) hf hb hok.1 hok.2 ?_
        rw [← EA.init_toA]
        exact evCodeR_sound hc c u _ _ y hy _ hbody
    · cases h
  · cases h

theorem evFn_sound (hmix : P.follows .mixedOrders = true) {X : FuncId → Option (CE → List Value → ES → Option (Rt × ES))} {k : Nat}
    (hX : ∀ f x, X f = some x → ∀ call, CSound (CallsX P) call → ∀ args e r e', x call args e = some (r, e') → ∀ R : Rt → St → Prop, R r e'.toSt → CallsX P f args e.toSt R) :
    ∀ n, CSound (CallsX P) (evFn P X k n)
  | 0 => fun f args e r e' h => by cases h
  | n + 1 => by
    have ih := evFn_sound (k := k) hmix hX n
    intro f args e r e' h R hr
    unfold evFn at h
    split at h
    · rename_i x hx
      exact hX f x hx _ ih args e r e' h R hr
    · split at h
      · rename_i fn hf
        split at h
        · rename_i c hb
          cases hok : (fnOk P (autoCfg P fn c) fn c && Nat.ble args.length fn.ntmps) with
          | false => rw [hok] at h; cases h
          | true =>
            rw [hok] at h
            simp only [cond_true] at h
            rw [Bool.and_eq_true] at hok
            obtain ⟨y, hy, hbody⟩ := evBody_sound (evDef_sound hmix ih) h hr
            refine fn_sound hmix (autoCfg P fn c) hf hb hok.1 hok.2 ?_
            rw [← EA.init_toA]
            exact evCode_sound ih c _ _ y hy _ hbody
        · cases h
      · cases h

/-! ### Closed runs -/
def ES.empty : ES := ⟨.nil, 0, .nil⟩

/-- A call that needs no memory and leaves none, from any memory. -/
theorem calls_closed {f : FuncId} {v : Value} (hfl : Flat v) (h : CallsX P f [] ES.empty.toSt (fun r _ => r = .ret v)) {s : St} {R : Rt → St → Prop} (hr : R (.ret v) s) : CallsX P f [] s R := by
  intro pr m w args' hw ha
  have hgl : GL { blk := fun k => w.heap[k]?, os := w.os, tape := w.tape, out := w.output } := fun k hk => by
    obtain ⟨c, e, fz, n, h1, h2⟩ := hw.gl k hk
    exact ⟨c, e, fz, n, hw.prot k _ h1, h2⟩
  have := h { blk := fun k => w.heap[k]?, os := w.os, tape := w.tape, out := w.output } (fun _ => none) w [] {
    os := rfl, tape := rfl, out := rfl, prot := fun k o h => h, lt := fun _ _ h => (nomatch h), nx := fun i _ => ⟨rfl, rfl⟩, gl := hgl,
    nd := fun _ _ => rfl, nf := fun _ _ _ _ _ h => (nomatch h), ob := fun _ _ h => (nomatch h), sep := fun _ _ _ _ _ _ h => (nomatch h) } .nil
  cases ha
  refine this.mono ?_
  rintro e w' ⟨r, s', m', hrt, hwr, hext, hsz, rfl⟩
  have hkeep : ∀ b, b < w.heap.size → w'.heap[b]? = w.heap[b]? := fun b hb => by
    have : w.heap[b]? = some w.heap[b] := by simp [hb]
    rw [this]
    exact hwr.prot b _ this
  refine ⟨.ret v, s, m, ?_, ?_, Ext.refl m _, hsz, hr⟩
  · cases e with
    | returned v' =>
      have hv : VR m' v v' := hrt
      have : v' = v := by
        have := VR.flat_inv hfl hv
        exact this
      rw [this]
      exact VR.flat hfl
    | panicked c => exact hrt.elim
    | outgrown => exact hrt.elim
  · exact {
      os := hwr.os.trans hw.os
      tape := hwr.tape.trans hw.tape
      out := hwr.out.trans hw.out
      prot := fun k o hk => hwr.prot k o (hw.prot k o hk)
      lt := fun i p hp => Nat.lt_of_lt_of_le (hw.lt i p hp) hsz
      nx := hw.nx
      gl := hw.gl
      nd := hw.nd
      nf := hw.nf
      ob := fun i o ho hre => by
        obtain ⟨p, hp, hob⟩ := hw.ob i o ho hre
        exact ⟨p, hp, obR.heap (hkeep _ (hw.lt i p hp)) hob⟩
      sep := hw.sep }
end
end Go.Proofs.Ytbcjgolkcfdnfaa.Sim
