import Derived.Test.YtbcjgolkcfdnfaaSimS
/- Sim, twentieth text: what the program of the text before tells holds in the abstract machine. No condition. -/
noncomputable section
namespace Go.Proofs.Ytbcjgolkcfdnfaa.Sim
open Go

section
variable {P : Program} {C : CT} {call : CE} {esc : List Nat} {g : Nat → Option Tmp} {Q : Ex → A → St → Prop} {K : A → St → Prop} {a : EA} {e : ES} {o : Oper}

def Sat (Q : Ex → A → St → Prop) (K : A → St → Prop) : Ev → Prop
  | .next a e => K a.toA e.toSt
  | .pan v a e => Q (.pan v) a.toA e.toSt

/-- Calls that are run tell what holds of calls. -/
def CSound (C : CT) (call : CE) : Prop := ∀ f args e r e', call f args e = some (r, e') → ∀ R : Rt → St → Prop, R r e'.toSt → C f args e.toSt R

theorem evLoad_sound {t : TypeId} {ad v : Value} (h : evLoad P t ad a e = some v) {K : Value → Prop} (hk : K v) : loadX P t ad K a.toA e.toSt := by
  unfold evLoad at h
  unfold loadX
  split at h
  · simp only [Option.map_eq_some_iff] at h
    obtain ⟨vs, h1, rfl⟩ := h
    exact ⟨vs, h1, hk⟩
  · rename_i v' off d
    have hl : a.toA.l d = a.l.get d := rfl
    simp only [hl]
    split at h
    · rename_i u c hg
      rw [hg]
      cases hb : Nat.beq v' u with
      | false => simp [hb] at h
      | true =>
        simp only [hb, cond_true, Option.map_eq_some_iff] at h ⊢
        obtain ⟨vs, h1, rfl⟩ := h
        rw [h1]
        exact hk
    · cases h
  · cases h

theorem evAlloc_sound {dst : Option Tmp} {c : List Value} {r : Ev} (h : evAlloc esc dst c a e = some r) (hs : Sat Q K r) : allocX esc dst c K a.toA e.toSt := by
  unfold evAlloc at h
  unfold allocX
  cases dst with
  | none => cases h
  | some d =>
    simp only at h ⊢
    cases hc : esc.contains d with
    | true =>
      simp only [hc, cond_true, Option.some.injEq] at h ⊢
      subst h
      simp only [Sat, EA.put_toA, ES.new_toSt] at hs
      exact hs
    | false =>
      simp only [hc, cond_false, Option.some.injEq] at h ⊢
      subst h
      simpa only [Sat, EA.put_toA, EA.loc_toA, EA.ver_toA] using hs

theorem evStore_sound {t : TypeId} {ad x : Value} {dst : Option Tmp} {r : Ev} (h : evStore P t ad x dst a e = some r) (hs : Sat Q K r) : storeX P t ad x (fun a s => K (a.put dst undef) s) a.toA e.toSt := by
  unfold evStore at h
  unfold storeX
  cases hc : (Nat.beq x.cells.size (sizeT P t) && noTup x) with
  | false => simp [hc] at h
  | true =>
  simp only [hc, cond_true] at h ⊢
  split at h
  · split at h
    · rename_i c ho
      simp only [Option.map_eq_some_iff] at h
      obtain ⟨c', h1, rfl⟩ := h
      refine ⟨c, c', ho, h1, ?_⟩
      simpa only [Sat, EA.put_toA, ES.put_toSt] using hs
    · cases h
  · rename_i v' off d
    have hl : a.toA.l d = a.l.get d := rfl
    simp only [hl]
    split at h
    · rename_i u c hg
      rw [hg]
      cases hb : Nat.beq v' u with
      | false => simp [hb] at h
      | true =>
        simp only [hb, cond_true, Option.map_eq_some_iff] at h ⊢
        obtain ⟨c', h1, rfl⟩ := h
        rw [h1]
        simpa only [Sat, EA.put_toA, EA.loc_toA] using hs
    · cases h
  · cases h

theorem evApp_sound {sz n : Nat} {news : List Value} {x v : Value} {e' : ES} (h : evApp e sz n news x = some (v, e')) {K : Value → St → Prop} (hk : K v e'.toSt) : appX e.toSt sz n news x K := by
  have b0 : Nat.beq n 0 = decide (n = 0) := by cases n <;> rfl
  unfold evApp at h
  unfold appX
  split at h
  · rw [b0] at h
    by_cases hn : n = 0
    · simp only [hn, decide_true, cond_true, Option.some.injEq, Prod.mk.injEq] at h
      obtain ⟨rfl, rfl⟩ := h
      exact ⟨fun _ => hk, fun h => by omega⟩
    · simp only [hn, decide_false, cond_false, Option.some.injEq, Prod.mk.injEq] at h
      obtain ⟨rfl, rfl⟩ := h
      rw [ES.new_toSt] at hk
      exact ⟨fun h => absurd h hn, fun _ => hk⟩
  · rename_i i off len sz'
    rw [b0] at h
    by_cases hn : n = 0
    · simp only [hn, decide_true, cond_true, Option.some.injEq, Prod.mk.injEq] at h
      obtain ⟨rfl, rfl⟩ := h
      exact ⟨fun _ => hk, fun h => by omega⟩
    · simp only [hn, decide_false, cond_false] at h
      cases hsz : Nat.beq sz sz' with
      | false => simp [hsz] at h
      | true =>
      simp only [hsz, cond_true] at h
      refine ⟨fun h => absurd h hn, fun _ => ⟨Nat.eq_of_beq_eq_true hsz, ?_⟩⟩
      split at h
      · rename_i c f kin hh
        refine ⟨c, f, kin, hh, ?_⟩
        cases hl : Nat.beq (off + len * sz) c.length with
        | true =>
          simp only [hl, cond_true, Option.some.injEq, Prod.mk.injEq] at h
          obtain ⟨rfl, rfl⟩ := h
          have he := Nat.eq_of_beq_eq_true hl
          refine ⟨Nat.le_of_eq he, fun _ => ?_, fun hlt => by omega⟩
          rw [ES.new_toSt, ES.upd_toSt] at hk
          exact hk
        | false =>
          simp only [hl, cond_false] at h
          cases hl' : Nat.ble (off + len * sz) c.length with
          | false => simp [hl'] at h
          | true =>
            simp only [hl', cond_true, Option.some.injEq, Prod.mk.injEq] at h
            obtain ⟨rfl, rfl⟩ := h
            refine ⟨Nat.le_of_ble_eq_true hl', fun he => ?_, fun _ => ?_⟩
            · rw [he] at hl; simp at hl
            · rw [ES.new_toSt, ES.del_toSt, ES.kill_toSt] at hk
              exact hk
      · cases h
  · cases h

theorem evPut_sound {d : Value} {cs : List Value} {e' : ES} (h : evPut e d cs = some e') {K : St → Prop} (hk : K e'.toSt) : putX e.toSt d cs K := by
  cases cs with
  | nil => cases h; exact hk
  | cons c0 cs =>
    unfold evPut at h
    split at h
    · contradiction
    · rename_i i off n c hne
      split at h
      · rename_i c ho
        simp only [Option.map_eq_some_iff] at h
        obtain ⟨c', h1, rfl⟩ := h
        rw [ES.put_toSt] at hk
        exact ⟨c, c', ho, h1, hk⟩
      · cases h
    · cases h

theorem sideD_sound {op : Op} {ev : Operand → Value} {c : Prop} {v : Value} (hd : sideD P op ev = true) (hs : sideX P op ev = some (c, v)) : c := by
  unfold sideD at hd
  unfold sideX at hs
  split at hd
  · simp only at hs
    split at hd
    · rename_i h1 h2
      simp only [h1, h2] at hs
      split at hs
      · cases hs
        simpa using hd
      · cases hs
    · rename_i h1 h2
      simp only [h1, h2] at hs
      split at hd
      · rename_i h3
        simp only [h3] at hs
        cases hs
        simpa using hd
      · cases hd
    · cases hd
  · simp only at hs
    split at hd
    · rename_i h1 h2
      simp only [h1, h2] at hs
      cases hs
      simpa using hd
    · cases hd
  · simp only at hs
    split at hd
    · rename_i h1 h2
      simp only [h1, h2] at hs
      rename_i k a k' b
      cases hk : decide (k = k') with
      | false => simp [hk] at hs
      | true => simp only [hk, cond_true] at hs; cases hs; simpa using hd
    · rename_i h1 h2
      simp only [h1, h2] at hs
      rename_i k a k' b
      cases hk : decide (k = k') with
      | false => simp [hk] at hs
      | true => simp only [hk, cond_true] at hs; cases hs; simpa using hd
    · rename_i h1 h2
      simp only [h1, h2] at hs
      cases hs
      simpa using hd
    · rename_i h1 h2
      simp only [h1, h2] at hs
      cases hs
      simpa using hd
    · rename_i h1 h2
      simp only [h1, h2] at hs
      cases hs
      exact Nat.le_of_ble_eq_true hd
    · cases hd
  · simp only at hs
    split at hd
    · rename_i h1 h2
      simp only [h1, h2] at hs
      split at hd
      · rename_i h3 h4
        simp only [h3, h4] at hs
        cases hs
        simpa [and_assoc] using hd
      · cases hd
    · rename_i h1 h2
      simp only [h1, h2] at hs
      split at hd
      · rename_i h3 h4
        simp only [h3, h4] at hs
        rename_i ad n sz u _ _ l hh
        cases hc : (Nat.beq (sizeT P u) sz && ad.spot.isNone) with
        | false => rw [hc] at hs; cases hs
        | true =>
          rw [hc] at hs
          simp only [cond_true, Option.some.injEq, Prod.mk.injEq] at hs
          rw [← hs.1]
          simpa [and_assoc] using hd
      · cases hd
    · rename_i h1 h2
      simp only [h1, h2] at hs
      split at hd
      · rename_i h3 h4
        simp only [h3, h4] at hs
        cases hs
        simpa using hd
      · cases hd
    · cases hd
  · cases hd

theorem evNext_sound {j : Nat} {mp : Option Nat} {since last : Nat} {seen : List Nat} {v : Value} {e' : ES} (h : evNext e j mp since seen last = some (v, e')) {K : Value → St → Prop} (hk : K v e'.toSt) : nextK e.toSt j mp since seen last K := by
  unfold evNext at h
  unfold nextK
  cases mp with
  | none => cases h; exact hk
  | some i =>
    simp only at h ⊢
    split at h
    · rename_i es c hh
      refine ⟨es, c, hh, ?_⟩
      cases hc : (es.all (fun x => plainKey x.1) && (seen.isEmpty || es.isEmpty || !es.all (fun x => Nat.ble last x.2.2))) with
      | false => simp [hc] at h
      | true =>
      rw [hc] at h
      simp only [cond_true] at h
      rw [Bool.and_eq_true, Bool.or_eq_true, Bool.or_eq_true] at hc
      refine ⟨hc.1, ?_, ?_⟩
      · rcases hc.2 with (h1 | h1) | h1
        · exact .inl (List.isEmpty_iff.1 h1)
        · exact .inr (.inl (List.isEmpty_iff.1 h1))
        · exact .inr (.inr (by simpa using h1))
      · have hmem : ∀ x ∈ es, seen.contains x.2.2 = false → x ∈ es.filter (fun x => !seen.contains x.2.2) := fun x hx hs => List.mem_filter.2 ⟨hx, by rw [hs]; rfl⟩
        split at h
        · rename_i hf
          cases h
          exact ⟨fun _ => hk, fun x hx hs => by have := hmem x hx hs; rw [hf] at this; cases this⟩
        · rename_i x hf
          cases hb : Nat.blt x.2.2 since with
          | false => simp [hb] at h
          | true =>
            simp only [hb, cond_true, Option.some.injEq, Prod.mk.injEq] at h
            obtain ⟨rfl, rfl⟩ := h
            refine ⟨fun hnil => ?_, fun y hy hs => ?_⟩
            · exfalso
              have hx : x ∈ es.filter (fun x => !seen.contains x.2.2) := by rw [hf]; simp
              have hx' := List.mem_filter.1 hx
              have : x ∈ es.filter (fun e => !seen.contains e.2.2 && Nat.blt e.2.2 since) := List.mem_filter.2 ⟨hx'.1, by simp only [hb, Bool.and_true]; exact hx'.2⟩
              rw [hnil] at this; cases this
            · have := hmem y hy hs
              rw [hf] at this
              obtain rfl := List.mem_singleton.1 this
              rw [ES.upd_toSt] at hk
              exact hk
        · cases h
    · cases h

theorem evEff_sound {op : Op} {ev : Operand → Value} {v : Value} {e' : ES} (h : evEff P op ev e = some (v, e')) {K : Value → St → Prop} (hk : K v e'.toSt) : effX P op ev e.toSt K := by
  unfold evEff at h
  split at h
  · rename_i t n parts
    show (match elemT P t with | some e => _ | none => _)
    cases he : elemT P t with
    | none => simp [he] at h
    | some u =>
      simp only [he] at h ⊢
      cases hz : zeroT P u with
      | none => simp [hz] at h
      | some z =>
        simp only [hz, Option.map_eq_some_iff, Prod.mk.injEq] at h ⊢
        obtain ⟨c, h1, rfl, rfl⟩ := h
        simp only [h1]
        rw [ES.new_toSt] at hk
        exact hk
  · rename_i b args argTypes
    split at h
    · rename_i x y t u hx ht
      obtain rfl : args = #[x, y] := Array.toList_inj.1 hx
      obtain rfl : argTypes = #[t, u] := Array.toList_inj.1 ht
      show (match elemT P t with | some e => _ | none => _)
      cases he : elemT P t with
      | none => simp [he] at h
      | some u =>
        simp only [he] at h ⊢
        split at h
        · rename_i news n hn
          cases hb : Nat.ble ((lenX (ev x) + n) * bytesT P u) 70368744177664 with
          | false => simp [hb] at h
          | true =>
            simp only [hb, cond_true] at h
            exact ⟨news, n, hn, Nat.le_of_ble_eq_true hb, evApp_sound h hk⟩
        · cases h
    · rename_i x y t u hx ht
      obtain rfl : args = #[x, y] := Array.toList_inj.1 hx
      obtain rfl : argTypes = #[t, u] := Array.toList_inj.1 ht
      show (match elemT P t with | some e => _ | none => _)
      cases he : elemT P t with
      | none => simp [he] at h
      | some u =>
        simp only [he] at h ⊢
        split at h
        · rename_i news n hn
          cases hb : isSl (ev x) with
          | false => simp [hb] at h
          | true =>
            simp only [hb, cond_true, Option.map_eq_some_iff, Prod.mk.injEq] at h
            obtain ⟨e1, h1, rfl, rfl⟩ := h
            exact ⟨news, n, hn, rfl, evPut_sound h1 hk⟩
        · cases h
    · rename_i x t hx ht
      obtain rfl : args = #[x] := Array.toList_inj.1 hx
      obtain rfl : argTypes = #[t] := Array.toList_inj.1 ht
      show (match elemT P t with | some e => _ | none => _)
      cases he : elemT P t with
      | none => simp [he] at h
      | some u =>
        simp only [he] at h ⊢
        cases hz : zeroT P u with
        | none => simp [hz] at h
        | some z =>
          simp only [hz] at h ⊢
          cases hb : isSl (ev x) with
          | false => simp [hb] at h
          | true =>
            simp only [hb, cond_true, Option.map_eq_some_iff, Prod.mk.injEq] at h
            obtain ⟨e1, h1, rfl, rfl⟩ := h
            exact ⟨rfl, evPut_sound h1 hk⟩
    · rename_i x k t u hx ht
      obtain rfl : args = #[x, k] := Array.toList_inj.1 hx
      obtain rfl : argTypes = #[t, u] := Array.toList_inj.1 ht
      show (match isMapT P t with | some (kt, _) => _ | none => _)
      cases he : isMapT P t with
      | none => simp [he] at h
      | some kt =>
        obtain ⟨kt, et⟩ := kt
        simp only [he] at h ⊢
        split at h
        · rename_i i es c hm
          cases hb : keysB P kt (ev k) es with
          | false => simp [hb] at h
          | true =>
            simp only [hb, cond_true, Option.some.injEq, Prod.mk.injEq] at h
            obtain ⟨rfl, rfl⟩ := h
            rw [ES.upd_toSt] at hk
            exact ⟨i, es, c, hm, hb, hk⟩
        · cases h
    · cases h
  · rename_i t x y
    show (match elemT P t with | some e => _ | none => _)
    cases he : elemT P t with
    | none => simp [he] at h
    | some u =>
      simp only [he] at h ⊢
      cases hz : zeroT P u with
      | none => simp [hz] at h
      | some z =>
        simp only [hz] at h ⊢
        split at h
        · rename_i l _ c h1 h2
          simp only [h1, h2]
          cases hb : (decide (0 ≤ l) && decide (l ≤ c) && decide (c * (bytesT P u : Int) ≤ 70368744177664)) with
          | false => rw [hb] at h; cases h
          | true =>
            rw [hb] at h
            simp only [cond_true, Option.some.injEq, Prod.mk.injEq] at h
            obtain ⟨rfl, rfl⟩ := h
            rw [ES.new_toSt] at hk
            simp only [Bool.and_eq_true, decide_eq_true_eq] at hb
            exact ⟨⟨hb.1.1, hb.1.2, hb.2⟩, hk⟩
        · cases h
  · rename_i t x lo hi
    show (match arrT P t with | some (n, e) => _ | none => _)
    cases he : arrT P t with
    | none => simp [he] at h
    | some nu =>
      obtain ⟨n, u⟩ := nu
      simp only [he] at h ⊢
      split at h
      · rename_i i off h1
        simp only [h1]
        split at h
        · rename_i l hh h2 h3
          simp only [h2, h3]
          split at h
          · rename_i c hr
            cases hb : (Nat.ble (off + n * sizeT P u) c.length && decide (0 ≤ l) && decide (l ≤ hh) && decide (hh ≤ (n : Int))) with
            | false => rw [hb] at h; cases h
            | true =>
              rw [hb] at h
              simp only [cond_true, Option.some.injEq, Prod.mk.injEq] at h
              obtain ⟨rfl, rfl⟩ := h
              simp only [Bool.and_eq_true, decide_eq_true_eq] at hb
              exact ⟨⟨c, hr, Nat.le_of_ble_eq_true hb.1.1.1⟩, ⟨hb.1.1.2, hb.1.2, hb.2⟩, hk⟩
          · cases h
        · cases h
      · cases h
  · rename_i t u x
    show ∃ c n b, _
    split at h
    · rename_i c n hn
      cases hb : isSl (ev x) with
      | false => simp [hb] at h
      | true =>
        simp only [hb, cond_true, Option.map_eq_some_iff, Prod.mk.injEq] at h
        obtain ⟨b, h1, rfl, rfl⟩ := h
        exact ⟨c, n, b, hn, h1, rfl, hk⟩
    · cases h
  · cases h
    rw [ES.new_toSt] at hk
    exact hk
  · rename_i t x k ok
    show (match isMapT P t with | some (kt, et) => _ | none => _)
    cases he : isMapT P t with
    | none => simp [he] at h
    | some kt =>
      obtain ⟨kt, et⟩ := kt
      simp only [he] at h ⊢
      split at h
      · rename_i es hm
        cases hb : keysB P kt (ev k) es with
        | false => simp [hb] at h
        | true =>
          simp only [hb, cond_true] at h
          refine ⟨es, hm, hb, ?_⟩
          cases hf : findX (ev k) es with
          | some y =>
            simp only [hf, Option.some.injEq, Prod.mk.injEq] at h ⊢
            obtain ⟨rfl, rfl⟩ := h
            exact hk
          | none =>
            simp only [hf, Option.map_eq_some_iff, Prod.mk.injEq] at h ⊢
            obtain ⟨z, h1, rfl, rfl⟩ := h
            simp only [h1]
            exact hk
      · cases h
  · rename_i t x k v
    show (match isMapT P t with | some (kt, _) => _ | none => _)
    cases he : isMapT P t with
    | none => simp [he] at h
    | some kt =>
      obtain ⟨kt, et⟩ := kt
      simp only [he] at h ⊢
      split at h
      · rename_i i es c hm
        cases hb : keysB P kt (ev k) es with
        | false => simp [hb] at h
        | true =>
          simp only [hb, cond_true] at h
          refine ⟨i, es, c, hm, hb, ?_⟩
          cases hf : findX (ev k) es with
          | some y =>
            simp only [hf, Option.some.injEq, Prod.mk.injEq] at h ⊢
            obtain ⟨rfl, rfl⟩ := h
            rw [ES.upd_toSt] at hk
            exact hk
          | none =>
            simp only [hf, Option.some.injEq, Prod.mk.injEq] at h ⊢
            obtain ⟨rfl, rfl⟩ := h
            rw [ES.upd_toSt] at hk
            exact hk
      · cases h
  · rename_i t x
    show (match isMapT P t with | some e => _ | none => _)
    cases he : isMapT P t with
    | none => simp [he] at h
    | some kt =>
      simp only [he] at h ⊢
      unfold rangeK
      split at h
      · rename_i h1
        simp only [h1]
        cases h
        rw [ES.new_toSt] at hk
        exact hk
      · rename_i i h1
        simp only [h1]
        split at h
        · rename_i es c h2
          cases h
          rw [ES.new_toSt] at hk
          exact ⟨es, c, h2, hk⟩
        · cases h
      · cases h
  · rename_i x
    show (match ev x with | .pointer (some ⟨j, 0, none⟩) => _ | _ => _)
    split at h
    · rename_i j h1
      rw [h1]
      split at h
      · rename_i mp since seen last h2
        exact ⟨mp, since, seen, last, h2, evNext_sound h hk⟩
      · cases h
    · cases h
  · cases h

theorem evCall_sound (hc : CSound C call) {f : FuncId} {args : List Value} {dst : Option Tmp} {r : Ev} (h : evCall call f args dst a e = some r) (hs : Sat Q K r) :
    C f args e.toSt fun r s' => match r with | .ret v => K (a.toA.put dst v) s' | .pan v => Q (.pan v) a.toA s' := by
  unfold evCall at h
  split at h
  · rename_i v e' h1
    cases h
    refine hc _ _ _ _ _ h1 _ ?_
    simpa only [Sat, EA.put_toA] using hs
  · rename_i v e' h1
    cases h
    exact hc _ _ _ _ _ h1 _ hs
  · cases h

theorem evOpG_sound (hc : CSound C call) {r : Ev} (h : evOpG P call esc o a e = some r) (hs : Sat Q K r) : opX P C esc o Q K a.toA e.toSt := by
  unfold evOpG at h
  split at h
  · rename_i t he
    unfold opX
    simp only [he]
    split at h
    · rename_i z hz
      simp only [hz]
      exact evAlloc_sound h hs
    · cases h
  · rename_i t x he
    unfold opX
    simp only [he]
    cases hn : noTup (a.toA.ev x) with
    | false => simp [hn] at h
    | true =>
      simp only [hn, cond_true] at h ⊢
      exact evAlloc_sound h hs
  · rename_i t x he
    unfold opX
    simp only [he]
    simp only [Option.map_eq_some_iff] at h
    obtain ⟨v, h1, rfl⟩ := h
    exact evLoad_sound h1 (by simpa only [Sat, EA.put_toA] using hs)
  · rename_i t x y he
    unfold opX
    simp only [he]
    exact evStore_sound h hs
  · rename_i f args tys he
    unfold opX
    simp only [he]
    exact evCall_sound hc h hs
  · rename_i t args tys he
    unfold opX
    simp only [he]
    split at h
    · rename_i f first captured hf
      simp only [hf]
      cases hb : callB P f with
      | false => simp [hb] at h
      | true =>
        simp only [hb, cond_true] at h
        exact ⟨rfl, evCall_sound hc h hs⟩
    · cases h
  · rename_i f args tys he
    unfold opX
    simp only [he]
    cases h
    simp only [Sat, EA.put_toA] at hs
    exact hs
  · rename_i t args tys he
    unfold opX
    simp only [he]
    split at h
    · rename_i f first captured hf
      simp only [hf]
      cases hb : callB P f with
      | false => simp [hb] at h
      | true =>
        simp only [hb, cond_true, Option.some.injEq] at h
        subst h
        simp only [Sat, EA.put_toA] at hs
        exact ⟨rfl, hs⟩
    · cases h
  · rename_i x he
    unfold opX
    simp only [he]
    split at h
    · rename_i t v hv
      simp only [hv]
      cases h
      exact hs
    · cases h
  · rename_i k1 k2 k3 k4 k5 k6 k7 k8 k9
    have hd : opX P C esc o Q K a.toA e.toSt = cond (isEffOp P o.op) (effX P o.op a.toA.ev e.toSt fun v s' => K (a.toA.put o.dst v) s')
        (match pureX P o.op a.toA.ev with
        | some v => K (a.toA.put o.dst v) e.toSt
        | none => match sideX P o.op a.toA.ev with
          | some (c, v) => c ∧ K (a.toA.put o.dst v) e.toSt
          | none => False) := by
      unfold opX
      split
      · rename_i e; exact absurd e (k1 _)
      · rename_i e; exact absurd e (k2 _ _)
      · rename_i e; exact absurd e (k3 _ _)
      · rename_i e; exact absurd e (k4 _ _ _)
      · rename_i e; exact absurd e (k5 _ _ _)
      · rename_i e; exact absurd e (k6 _ _ _)
      · rename_i e; exact absurd e (k7 _ _ _)
      · rename_i e; exact absurd e (k8 _ _ _)
      · rename_i e; exact absurd e (k9 _)
      · rfl
    rw [hd]
    cases hie : isEffOp P o.op with
    | true =>
      simp only [hie, cond_true, Option.map_eq_some_iff] at h ⊢
      obtain ⟨⟨v, e'⟩, h1, rfl⟩ := h
      exact evEff_sound h1 (by simpa only [Sat, EA.put_toA] using hs)
    | false =>
      simp only [hie, cond_false] at h ⊢
      cases hp : pureX P o.op a.toA.ev with
      | some v =>
        simp only [hp, Option.some.injEq] at h ⊢
        subst h
        simpa only [Sat, EA.put_toA] using hs
      | none =>
        simp only [hp] at h ⊢
        cases hx : sideX P o.op a.toA.ev with
        | none => simp [hx] at h
        | some cv =>
          obtain ⟨c, v⟩ := cv
          simp only [hx] at h ⊢
          cases hb : sideD P o.op a.toA.ev with
          | false => simp [hb] at h
          | true =>
            simp only [hb, cond_true, Option.some.injEq] at h
            subst h
            exact ⟨sideD_sound hb hx, by simpa only [Sat, EA.put_toA] using hs⟩

theorem ev_toA (a : EA) (x : Operand) : a.ev x = a.toA.ev x := by
  cases x with
  | tmp t =>
    show (Option.rec undef (fun v => v) (a.t.get t) : Value) = (a.t.get t).getD undef
    cases a.t.get t <;> rfl
  | _ => rfl

theorem qBin_spec {op : BinOp} {t : TypeId} {kc : Bool} {x y v : Value} (h : qBin op x y = some v) : binX P op t kc x y = some v := by
  unfold qBin at h
  split at h
  · rename_i k a k' b
    unfold binX
    cases hk : decide (k = k') with
    | false => rw [hk] at h; cases h
    | true =>
      rw [hk] at h
      simp only [cond_true] at h
      unfold qInt at h
      split at h <;> first | (simp only [hk, cond_true]; exact h) | cases h
  · cases h

theorem qMax_spec {x y v : Value} (h : qMax x y = some v) : ∃ k a k' b, x = .int k a ∧ y = .int k' b ∧ v = .int k (if b > a then b else a) := by
  unfold qMax at h
  split at h
  · cases h
    rename_i k n k'
    refine ⟨_, _, _, _, rfl, rfl, ?_⟩
    rw [if_neg (by simp)]
  · cases h
    rename_i k n k'
    refine ⟨_, _, _, _, rfl, rfl, ?_⟩
    rw [if_pos (by show (Int.negSucc n) < 0; omega)]
  · cases h
theorem qMin_spec {x y v : Value} (h : qMin x y = some v) : ∃ k a k' b, x = .int k a ∧ y = .int k' b ∧ v = .int k (if b < a then b else a) := by
  unfold qMin at h
  split at h
  · cases h
    rename_i k n k'
    refine ⟨_, _, _, _, rfl, rfl, ?_⟩
    split
    · rfl
    · rename_i hn
      have : n = 0 := by
        have hn' : ¬ ((0 : Int) < (n : Int)) := hn
        omega
      subst this
      rfl
  · cases h
    rename_i k n k'
    refine ⟨_, _, _, _, rfl, rfl, ?_⟩
    rw [if_neg (by show ¬ (0 < Int.negSucc n); omega)]
  · cases h

theorem qCall_spec {c : Call} {v : Value} (h : qCall c a = some v) : isEffOp P (.call c) = false ∧ pureX P (.call c) a.toA.ev = some v ∧ ∀ f, c.callee ≠ .value f := by
  obtain ⟨callee, args, tys⟩ := c
  unfold qCall at h
  split at h
  · rename_i x y hc hx
    obtain rfl : callee = .builtin .max := hc
    obtain rfl : args = #[x, y] := Array.toList_inj.1 hx
    refine ⟨rfl, ?_, by simp⟩
    rw [ev_toA, ev_toA] at h
    obtain ⟨k, p, k', q, e1, e2, rfl⟩ := qMax_spec h
    simp only [pureX, e1, e2]
  · rename_i x y hc hx
    obtain rfl : callee = .builtin .min := hc
    obtain rfl : args = #[x, y] := Array.toList_inj.1 hx
    refine ⟨rfl, ?_, by simp⟩
    rw [ev_toA, ev_toA] at h
    obtain ⟨k, p, k', q, e1, e2, rfl⟩ := qMin_spec h
    simp only [pureX, e1, e2]
  · cases h

theorem qVal_spec {op : Op} {v : Value} (h : qVal P op a = some v) : isEffOp P op = false ∧ pureX P op a.toA.ev = some v ∧
    (∀ t, op ≠ .alloc t) ∧ (∀ t x, op ≠ .box t x) ∧ (∀ t x, op ≠ .load t x) ∧ (∀ t x y, op ≠ .store t x y) ∧ (∀ c, op = .call c → ∀ f, c.callee ≠ .value f) ∧ (∀ c, op ≠ .defer c) ∧ (∀ x, op ≠ .panic x) := by
  unfold qVal at h
  split at h
  · refine ⟨rfl, ?_, by simp⟩
    simp only [pureX, ← ev_toA]; exact h
  · refine ⟨rfl, ?_, by simp⟩
    simp only [pureX, ← ev_toA]; exact h
  · refine ⟨rfl, ?_, by simp⟩
    simp only [pureX, ← ev_toA]; exact h
  · refine ⟨rfl, ?_, by simp⟩
    simp only [pureX, ← ev_toA]; exact h
  · refine ⟨rfl, ?_, by simp⟩
    simp only [pureX, ← ev_toA]; exact qBin_spec h
  · refine ⟨rfl, ?_, by simp⟩
    simp only [pureX, ← ev_toA]; exact h
  · obtain ⟨h1, h2, h3⟩ := qCall_spec (P := P) h
    exact ⟨h1, h2, by simp, by simp, by simp, by simp, fun c e => by cases e; exact h3, by simp, by simp⟩
  · cases h

theorem evOp_sound (hc : CSound C call) {r : Ev} (h : evOp P call esc o a e = some r) (hs : Sat Q K r) : opX P C esc o Q K a.toA e.toSt := by
  unfold evOp at h
  cases hq : qVal P o.op a with
  | none => rw [hq] at h; exact evOpG_sound hc h hs
  | some v =>
    rw [hq] at h
    simp only [qGo, Option.some.injEq] at h
    subst h
    simp only [Sat, EA.put_toA] at hs
    obtain ⟨h1, h2, k1, k2, k3, k4, k5, k6, k7⟩ := qVal_spec hq
    unfold opX
    split
    · rename_i e; exact absurd e (k1 _)
    · rename_i e; exact absurd e (k2 _ _)
    · rename_i e; exact absurd e (k3 _ _)
    · rename_i e; exact absurd e (k4 _ _ _)
    · rename_i e; exact absurd rfl (k5 _ e _)
    · rename_i e; exact absurd rfl (k5 _ e _)
    · rename_i e; exact absurd e (k6 _)
    · rename_i e; exact absurd e (k6 _)
    · rename_i e; exact absurd e (k7 _)
    · rw [h1, h2]
      exact hs

theorem evG_sound (hc : CSound C call) {r : Ev} (h : evG P call esc g o a e = some r) (hs : Sat Q K r) : gX P C esc g Q o K a.toA e.toSt := by
  unfold evG at h
  unfold gX
  cases hg : o.guard with
  | none => simp only [hg] at h ⊢; exact evOp_sound hc h hs
  | some jw =>
    obtain ⟨j, want⟩ := jw
    simp only [hg] at h ⊢
    split at h
    · rename_i b hb
      refine ⟨b, hb, fun hw => ?_, fun hw => ?_⟩
      · subst hw
        simp only [beq_self_eq_true, cond_true] at h
        exact evOp_sound hc h hs
      · have : (b == some want) = false := by simpa using hw
        simp only [this, cond_false, Option.some.injEq] at h
        subst h
        simpa only [Sat, EA.put_toA] using hs
    · cases h

theorem evOps_sound (hc : CSound C call) : ∀ (l : List Oper) (a : EA) (e : ES) (r : Ev), evOps P call esc g l a e = some r → Sat Q K r → opsX P C esc g Q l K a.toA e.toSt
  | [], a, e, r, h, hs => by cases h; exact hs
  | o :: l, a, e, r, h, hs => by
    unfold evOps at h
    unfold opsX
    split at h
    · rename_i a1 e1 h1
      exact evG_sound hc h1 (evOps_sound hc l a1 e1 r h hs)
    · rename_i x hx
      cases r with
      | next a1 e1 => exact absurd h (hx _ _)
      | pan v a1 e1 => exact evG_sound hc h hs

theorem evStab_sound {ops : Array Oper} {q : Nat} (h : evStab P ops q a e = true) : stabX P ops q a.toA e.toSt := by
  unfold evStab at h
  unfold stabX
  split at h
  · rename_i d t x _ _ _ ho
    simp only [ho]
    split at h
    · rename_i v hv
      exact evLoad_sound hv (eqW_spec h)
    · cases h
  · cases h
theorem evApart_sound {ops : Array Oper} {q d : Nat} (h : evApart ops q d a = true) : apartX ops q d a.toA := by
  unfold evApart at h
  unfold apartX
  split at h
  · rename_i x ho
    simp only [ho]
    split at h
    · rename_i hx
      simp only [hx]
      simpa using h
    · rename_i hx
      split
      · rename_i hx'; exact absurd hx' (hx _ _ _)
      · trivial
  · cases h
theorem evObl_sound {ops : Array Oper} {i k : Nat} (h : evObl P esc ops i o k a e = true) : oblX P esc ops i o k a.toA e.toSt := by
  unfold evObl at h
  unfold oblX
  split at h
  · rename_i hk; simp only [hk]; exact evStab_sound h
  · rename_i hk
    simp only [hk]
    split at h
    · rename_i d hd; simp only [hd]; exact evApart_sound h
    · cases h
  · rename_i h1 h2
    split
    · rename_i hk; exact absurd hk h1
    · rename_i hk; exact absurd hk h2
    · trivial
theorem evObls_sound {ops : Array Oper} {i : Nat} : ∀ (l : List Nat), l.all (fun q => evObl P esc ops i o q a e) = true → K a.toA e.toSt → oblsX P esc ops i o l K a.toA e.toSt
  | [], _, h => h
  | q :: r, h, hk => by
    simp only [List.all_cons, Bool.and_eq_true] at h
    exact ⟨evObl_sound h.1, evObls_sound r h.2 hk⟩

theorem evDraw_sound (hc : CSound C call) {ops : Array Oper} {c : Nat → List Nat} : ∀ (l : List Nat) (a : EA) (e : ES) (r : Ev), evDraw P call esc ops c l a e = some r → Sat Q K r → drawX P C esc ops (bareQ Q) c l K a.toA e.toSt
  | [], a, e, r, h, hs => by cases h; exact hs
  | i :: l, a, e, r, h, hs => by
    unfold evDraw at h
    unfold drawX
    cases ho : ops[i]? with
    | none => simp [ho] at h
    | some o =>
      simp only [ho] at h ⊢
      split at h
      · rename_i a1 e1 h1
        cases hb : (c i).all fun q => evObl P esc ops i o q a1 e1 with
        | false => rw [hb] at h; cases h
        | true =>
          rw [hb] at h
          simp only [cond_true] at h
          exact evG_sound hc h1 (evObls_sound _ hb (evDraw_sound hc l a1 e1 r h hs))
      · rename_i v a1 e1 h1
        cases h
        exact evG_sound hc h1 hs
      · cases h

theorem evOrds_sound (hc : CSound C call) {ops : Array Oper} : ∀ (l : List (List Nat × List (Nat × List Nat))) (r : Ev), evOrds P call esc ops a e l = some r → Sat Q K r → ordsX P C esc ops (bareQ Q) K a.toA e.toSt l
  | [], r, h, _ => by cases h
  | [(l, c)], r, h, hs => evDraw_sound hc l _ _ r h hs
  | (l, c) :: y :: l', r, h, hs => by
    unfold evOrds at h
    split at h
    · rename_i x hx
      split at h
      · rename_i y' hy
        cases hb : eqEv x y' with
        | false => rw [hb] at h; cases h
        | true =>
          rw [hb] at h
          simp only [cond_true, Option.some.injEq] at h
          subst h
          exact ⟨evDraw_sound hc l _ _ x hx hs, evOrds_sound hc (y :: l') x (by rw [hy, eqEv_spec hb]) hs⟩
      · cases h
    · cases h

theorem evEnd_sound {x : Option Ev} {ex : Ex} {a' : EA} {e' : ES} (h : evEnd x = some (ex, a', e')) (hq : Q ex a'.toA e'.toSt) : ∃ r, x = some r ∧ Sat Q (Q .normal) r := by
  unfold evEnd at h
  split at h
  · cases h; exact ⟨_, rfl, hq⟩
  · cases h; exact ⟨_, rfl, hq⟩
  · cases h

theorem least {p : Nat → Prop} (h : ∃ k, p k) : ∃ k, p k ∧ ∀ j, p j → k ≤ j := by
  obtain ⟨k, hk⟩ := h
  induction k using Nat.strongRecOn with
  | _ k ih =>
    by_cases hj : ∃ j, j < k ∧ p j
    · obtain ⟨j, hlt, hpj⟩ := hj
      exact ih j hlt hpj
    · exact ⟨k, hk, fun j hpj => Nat.le_of_not_lt fun hlt => hj ⟨j, hlt, hpj⟩⟩

theorem evLoop_sound {f : EA → ES → RE} {k : Nat} {a : EA} {e : ES} {x : Ex × EA × ES} (h : evLoop f k a e = some x) {cfg : Cfg} {c : Code} {Q : Ex → A → St → Prop} (hq : Q x.1 x.2.1.toA x.2.2.toSt)
    (hf : ∀ (a : EA) (e : ES) (y : Ex × EA × ES), f a e = some y → ∀ Q : Ex → A → St → Prop, Q y.1 y.2.1.toA y.2.2.toSt → codeX P C cfg c Q a.toA e.toSt) : codeX P C cfg (.loop c) Q a.toA e.toSt := by
  classical
  let p : A → St → Nat → Prop := fun b s k => ∃ a e, b = a.toA ∧ s = e.toSt ∧ evLoop f k a e = some x
  let m : A → St → Nat := fun b s => if h : ∃ k, p b s k then (least h).choose else 0
  refine ⟨fun b s => ∃ k, p b s k, m, ⟨k, a, e, rfl, rfl, h⟩, ?_⟩
  intro b s hb
  have hm : m b s = (least hb).choose := by simp only [m]; rw [dif_pos hb]
  obtain ⟨⟨a1, e1, rfl, rfl, h1⟩, hmin⟩ := (least hb).choose_spec
  rw [← hm] at h1
  generalize hk : m a1.toA e1.toSt = k1 at h1
  cases k1 with
  | zero => cases h1
  | succ k1 =>
    unfold evLoop at h1
    cases hfa : f a1 e1 with
    | none => rw [hfa] at h1; cases h1
    | some y =>
      obtain ⟨ex, a2, e2⟩ := y
      refine hf a1 e1 _ hfa _ ?_
      rw [hfa] at h1
      cases ex with
      | normal =>
        simp only [back] at h1
        have hp : p a2.toA e2.toSt k1 := ⟨a2, e2, rfl, rfl, h1⟩
        refine ⟨⟨k1, hp⟩, ?_⟩
        have hm2 : m a2.toA e2.toSt = (least ⟨k1, hp⟩).choose := by simp only [m]; rw [dif_pos ⟨k1, hp⟩]
        have hle := (least ⟨k1, hp⟩).choose_spec.2 k1 hp
        rw [← hm2] at hle
        exact Nat.lt_of_le_of_lt hle (Nat.lt_succ_self k1)
      | exit id => simp only [Option.some.injEq] at h1; subst h1; exact hq
      | ret => simp only [Option.some.injEq] at h1; subst h1; exact hq
      | pan v => simp only [Option.some.injEq] at h1; subst h1; exact hq

theorem evCode_sound (hc : CSound C call) {cfg : Cfg} {k : Nat} : ∀ (c : Code) (a : EA) (e : ES) (x : Ex × EA × ES), evCode P call cfg k c a e = some x → ∀ Q : Ex → A → St → Prop, Q x.1 x.2.1.toA x.2.2.toSt → codeX P C cfg c Q a.toA e.toSt := by
  intro c
  induction c with
  | skip => intro a e x h Q hq; cases h; exact hq
  | label l => intro a e x h Q hq; cases h; exact hq
  | exit id => intro a e x h Q hq; cases h; exact hq
  | ret => intro a e x h Q hq; cases h; exact hq
  | scope c ih => intro a e x h Q hq; exact ih a e x h Q hq
  | region id ops d =>
    intro a e x h Q hq
    cases d with
    | false =>
      obtain ⟨r, h1, h2⟩ := evEnd_sound (Q := Q) h hq
      exact evOps_sound hc _ _ _ _ h1 h2
    | true =>
      obtain ⟨r, h1, h2⟩ := evEnd_sound (Q := Q) h hq
      exact evOrds_sound hc _ r h1 h2
  | seq x y ihx ihy =>
    intro a e r h Q hq
    simp only [evCode] at h
    split at h
    · rename_i a1 e1 h1
      exact ihx a e _ h1 _ (ihy a1 e1 r h Q hq)
    · rename_i hne
      obtain ⟨ex, a1, e1⟩ := r
      refine ihx a e _ h _ ?_
      cases ex with
      | normal => exact absurd h (hne _ _)
      | _ => exact hq
  | cond c x y ihx ihy =>
    intro a e r h Q hq
    simp only [evCode] at h
    split at h
    · rename_i b hb
      refine ⟨b, hb, fun h1 => ?_, fun h1 => ?_⟩ <;> subst h1
      · exact ihx a e r h Q hq
      · exact ihy a e r h Q hq
    · cases h
  | block id c ih =>
    intro a e r h Q hq
    simp only [evCode] at h
    split at h
    · rename_i j a1 e1 h1
      refine ih a e _ h1 _ ?_
      cases hj : Nat.beq j id with
      | true => rw [hj] at h; cases h; simp only [hj, cond_true]; exact hq
      | false => rw [hj] at h; cases h; simp only [hj, cond_false]; exact hq
    · rename_i hne
      obtain ⟨ex, a1, e1⟩ := r
      refine ih a e _ h _ ?_
      cases ex with
      | exit j => exact absurd h (hne _ _ _)
      | _ => exact hq
  | loop c ih =>
    intro a e r h Q hq
    exact evLoop_sound h hq ih
  | rangeFunc _ _ _ _ _ _ => intro a e x h; cases h
  | goto _ => intro a e x h; cases h
  | refuse _ => intro a e x h; cases h

theorem evRes_sound {K : Value → Prop} : ∀ (l : List ResultVar) (vs : List Value) (v : Value), evRes P a e l vs = some v → K v → resX P K a.toA e.toSt l vs
  | [], vs, v, h, hk => by cases h; exact hk
  | .tmp t :: l, vs, v, h, hk => evRes_sound l _ v h hk
  | .cell t ty :: l, vs, v, h, hk => by
    unfold evRes at h
    unfold resX
    split at h
    · rename_i u hu
      exact evLoad_sound hu (evRes_sound l _ v h hk)
    · cases h

theorem evResY_sound {K : Value → Prop} : ∀ (l : List ResultVar) (vs : List Value) (v : Value), evResY P a e l vs = some v → K v → resY P K a.toA e.toSt l vs
  | [], vs, v, h, hk => by cases h; exact hk
  | .tmp t :: l, vs, v, h, hk => by cases h
  | .cell t ty :: l, vs, v, h, hk => by
    unfold evResY at h
    unfold resY
    split at h
    · rename_i i off he
      simp only [he]
      split at h
      · rename_i us hu
        exact ⟨us, hu, evResY_sound l _ v h hk⟩
      · cases h
    · cases h

theorem evOpsR_sound (hc : CSound C call) {Q : Md → Ex → A → St → Prop} : ∀ (l : List Oper) (u : Md) (a : EA) (e : ES) (y : Md × Ex × EA × ES), evOpsR P call esc g l u a e = some y → Q y.1 y.2.1 y.2.2.1.toA y.2.2.2.toSt → opsR P C esc g Q l u a.toA e.toSt
  | [], u, a, e, y, h, hq => by cases h; exact hq
  | o :: l, u, a, e, y, h, hq => by
    unfold evOpsR at h
    unfold opsR
    cases hr : isRec o with
    | true =>
      rw [hr] at h
      simp only [cond_true] at h ⊢
      cases u with
      | ret => have := evOpsR_sound hc l _ _ _ _ h hq; rw [EA.put_toA] at this; exact this
      | took => have := evOpsR_sound hc l _ _ _ _ h hq; rw [EA.put_toA] at this; exact this
      | pan v => have := evOpsR_sound hc l _ _ _ _ h hq; rw [EA.put_toA] at this; exact this
    | false =>
      rw [hr] at h
      simp only [cond_false] at h ⊢
      split at h
      · rename_i a1 e1 h1
        exact evG_sound hc h1 (evOpsR_sound hc l u a1 e1 y h hq)
      · rename_i v a1 e1 h1
        cases h
        exact evG_sound hc h1 hq
      · cases h

theorem evCodeR_other (hc : CSound C call) {cfg : Cfg} {k : Nat} {c : Code} {u : Md} {y : Md × Ex × EA × ES} (h : (evCode P call cfg k c a e).map (fun x => (u, x)) = some y) {Q : Md → Ex → A → St → Prop} (hq : Q y.1 y.2.1 y.2.2.1.toA y.2.2.2.toSt) : codeX P C cfg c (Q u) a.toA e.toSt := by
  simp only [Option.map_eq_some_iff] at h
  obtain ⟨x, h1, rfl⟩ := h
  exact evCode_sound hc c a e x h1 _ hq

theorem evCodeR_sound (hc : CSound C call) {cfg : Cfg} {k : Nat} : ∀ (c : Code) (u : Md) (a : EA) (e : ES) (y : Md × Ex × EA × ES), evCodeR P call cfg k c u a e = some y → ∀ Q : Md → Ex → A → St → Prop, Q y.1 y.2.1 y.2.2.1.toA y.2.2.2.toSt → codeR P C cfg c Q u a.toA e.toSt := by
  intro c
  induction c with
  | seq x y ihx ihy =>
    intro u a e r h Q hq
    simp only [evCodeR] at h
    split at h
    · rename_i u1 a1 e1 h1
      exact ihx u a e _ h1 _ (ihy u1 a1 e1 r h Q hq)
    · rename_i hne
      obtain ⟨u1, ex, a1, e1⟩ := r
      refine ihx u a e _ h _ ?_
      cases ex with
      | normal => exact absurd h (hne _ _ _)
      | _ => exact hq
  | region id ops d =>
    intro u a e r h Q hq
    cases d with
    | false => exact evOpsR_sound hc _ _ _ _ _ h hq
    | true => exact evCodeR_other hc h hq
  | skip => exact fun u a e r h Q hq => evCodeR_other hc h hq
  | label l => exact fun u a e r h Q hq => evCodeR_other hc h hq
  | exit id => exact fun u a e r h Q hq => evCodeR_other hc h hq
  | ret => exact fun u a e r h Q hq => evCodeR_other hc h hq
  | cond c x y _ _ => exact fun u a e r h Q hq => evCodeR_other hc h hq
  | block id c _ => exact fun u a e r h Q hq => evCodeR_other hc h hq
  | loop c _ => exact fun u a e r h Q hq => evCodeR_other hc h hq
  | rangeFunc _ _ _ _ _ _ => exact fun u a e r h Q hq => evCodeR_other hc h hq
  | scope c _ => exact fun u a e r h Q hq => evCodeR_other hc h hq
  | goto _ => exact fun u a e r h Q hq => evCodeR_other hc h hq
  | refuse _ => exact fun u a e r h Q hq => evCodeR_other hc h hq

end
end Go.Proofs.Ytbcjgolkcfdnfaa.Sim
