import Derived.Test.YtbcjgolkcfdnfaaSimU
import Derived.Shelf.Strings.Search1
import Derived.Shelf.Strings.Search2
import Derived.HandedShaped
import Derived.Below
import Derived.Shelf.Vars
import Derived.Test.YtbcjgolkcfdnfaaProg
/- Library functions that are met by the kit's contracts: internal/stringslite.Index and IndexByte of texts of fewer than 4294967281 bytes; what a call that needs no memory leaves of the world. -/
namespace Go.Proofs.Ytbcjgolkcfdnfaa.Lib
open Go Go.Proofs Go.Proofs.Ytbcjgolkcfdnfaa.Sim Go.RowKit
def lays217_ren : Go.Shelf.Ren := ⟨fun | 217 => 98 | 266 => 116 | n => n, fun | 9 => 9 | 5 => 5 | 3 => 3 | n => n, fun | n => n⟩
theorem lays217 : Go.Proofs.Lays.n217 Try.prog lays217_ren := {
  mixed := by kernel_rfl
  f217 := Try.func98.trans (congrArg some (by kernel_rfl))
  f266 := Try.func116.trans (congrArg some (by kernel_rfl))
  t3 := Try.underlying3
  a3 := Try.isAgg3
  z3 := Try.sizeOf3
  v3 := Try.zeroValue3
  t5 := Try.underlying5
  a5 := Try.isAgg5
  z5 := Try.sizeOf5
  v5 := Try.zeroValue5
  t9 := Try.underlying9
  a9 := Try.isAgg9
  z9 := Try.sizeOf9
  v9 := Try.zeroValue9 }
def lays219_ren : Go.Shelf.Ren := ⟨fun | 219 => 115 | 217 => 98 | 225 => 135 | 224 => 136 | 267 => 137 | 266 => 116 | 314 => 142 | n => n, fun | 9 => 9 | 3 => 3 | 4 => 4 | 5 => 5 | 46 => 124 | 146 => 146 | 51 => 145 | n => n, fun | 1 => 0 | n => n⟩
theorem lays219 : Go.Proofs.Lays.n219 Try.prog lays219_ren := {
  mixed := by kernel_rfl
  f217 := Try.func98.trans (congrArg some (by kernel_rfl))
  f219 := Try.func115.trans (congrArg some (by kernel_rfl))
  f224 := Try.func136.trans (congrArg some (by kernel_rfl))
  f225 := Try.func135.trans (congrArg some (by kernel_rfl))
  f266 := Try.func116.trans (congrArg some (by kernel_rfl))
  f267 := Try.func137.trans (congrArg some (by kernel_rfl))
  f314 := Try.func142.trans (congrArg some (by kernel_rfl))
  t3 := Try.underlying3
  a3 := Try.isAgg3
  z3 := Try.sizeOf3
  v3 := Try.zeroValue3
  t4 := Try.underlying4
  a4 := Try.isAgg4
  z4 := Try.sizeOf4
  v4 := Try.zeroValue4
  t5 := Try.underlying5
  a5 := Try.isAgg5
  z5 := Try.sizeOf5
  v5 := Try.zeroValue5
  t9 := Try.underlying9
  a9 := Try.isAgg9
  z9 := Try.sizeOf9
  v9 := Try.zeroValue9
  t46 := Try.underlying124
  a46 := Try.isAgg124
  z46 := Try.sizeOf124
  v46 := Try.zeroValue124
  t51 := Try.underlying145
  a51 := Try.isAgg145
  z51 := Try.sizeOf145
  v51 := Try.zeroValue145
  t146 := Try.underlying146
  a146 := Try.isAgg146
  z146 := Try.sizeOf146
  v146 := Try.zeroValue146
  g1 := by kernel_rfl }

theorem idxByte (s : ByteArray) (c : Int) (w : World) :
    Calls Try.prog 98 #[.string s, .int .u8 c] w fun e w' => e = .returned (.int .i64 (Go.Lib.indexByte s.data.toList c.toNat.toUInt8)) ∧ w' = w := Any.stringslite_IndexByte lays217 s c w
theorem idx (s sub : ByteArray) (m : Int) (w : World) (hs : s.size < 4294967281) (hm : w.cell? ⟨0, 0, none⟩ = some (.int .i64 m)) :
    Calls Try.prog 115 #[.string s, .string sub] w fun e w' => e = .returned (.int .i64 (Go.Lib.index s.data.toList sub.data.toList)) ∧ w' = w := Any.stringslite_Index lays219 s sub m w hs hm
theorem glob0 (w : World) (h : w.ShapedOpen Try.prog) : ∃ m, w.cell? ⟨0, 0, none⟩ = some (.int .i64 m) :=
  Go.Proofs.cell_of_shapedOpen_int (zero := #[.int .i64 0]) (t := 3) h (of_decide_eq_true (by kernel_rfl)) (by kernel_rfl) rfl (by kernel_rfl) (by kernel_rfl) Try.underlying3

theorem mixed : Try.prog.follows .mixedOrders = true := by kernel_rfl

theorem wr_cell0 {pr : Pr} {m : Mu} {s : St} {w : World} (h : WR pr m s w) : ∃ m, w.cell? ⟨0, 0, none⟩ = some (.int .i64 m) := by
  obtain ⟨c, e, fz, n, h1, h2⟩ := h.gl 0 rfl
  have := h.prot 0 _ h1
  refine ⟨n, ?_⟩
  simp only [World.cell?, this]
  simpa using h2

/-- A call that leaves the world as it is. -/
theorem calls_same {P : Program} {f : FuncId} {args : List Value} {v : Value} {s : St} {R : Rt → St → Prop} (hfl : ∀ x ∈ args, Flat x) (hv : Flat v)
    (h : ∀ (pr : Pr) (m : Mu) (w : World), WR pr m s w → Calls P f args.toArray w fun e w' => e = .returned v ∧ w' = w) (hr : R (.ret v) s) : CallsX P f args s R := by
  intro pr m w args' hw ha
  rw [VRs.flat_inv hfl ha]
  refine (h pr m w hw).mono ?_
  rintro e w' ⟨rfl, rfl⟩
  exact ⟨.ret v, s, m, VR.flat hv, hw, Ext.refl m _, Nat.le_refl _, hr⟩

noncomputable section
def xIndexByte (_ : CE) (args : List Value) (e : ES) : Option (Rt × ES) :=
  match args with
  | [.string s, .int .u8 c] => some (.ret (.int .i64 (Go.Lib.indexByte s.data.toList c.toNat.toUInt8)), e)
  | _ => none
def xIndex (_ : CE) (args : List Value) (e : ES) : Option (Rt × ES) :=
  match args with
  | [.string s, .string t] => cond (Nat.blt s.data.toList.length 4294967281) (some (.ret (.int .i64 (Go.Lib.index s.data.toList t.data.toList)), e)) none
  | _ => none
end

theorem flats {x y : Value} (hx : Flat x) (hy : Flat y) : ∀ z ∈ [x, y], Flat z := by
  intro z hz
  rcases List.mem_cons.1 hz with rfl | hz
  · exact hx
  · rcases List.mem_cons.1 hz with rfl | hz
    · exact hy
    · cases hz

theorem xIndexByte_sound {call : CE} {args : List Value} {e e' : ES} {r : Rt} (h : xIndexByte call args e = some (r, e')) {R : Rt → St → Prop} (hr : R r e'.toSt) : CallsX Try.prog 98 args e.toSt R := by
  unfold xIndexByte at h
  split at h
  · rename_i s c
    cases h
    exact calls_same (flats (.string s) (.int .u8 c)) (.int _ _) (fun _ _ w _ => idxByte s c w) hr
  · cases h
theorem xIndex_sound {call : CE} {args : List Value} {e e' : ES} {r : Rt} (h : xIndex call args e = some (r, e')) {R : Rt → St → Prop} (hr : R r e'.toSt) : CallsX Try.prog 115 args e.toSt R := by
  unfold xIndex at h
  split at h
  · rename_i s t
    cases hb : Nat.blt s.data.toList.length 4294967281 with
    | false => rw [hb] at h; cases h
    | true =>
      rw [hb] at h
      cases h
      refine calls_same (flats (.string s) (.string t)) (.int _ _) (fun pr m w hw => ?_) hr
      obtain ⟨k, hk⟩ := wr_cell0 hw
      exact idx s t k w (Nat.le_of_ble_eq_true hb) hk
  · cases h

def Xs (f : FuncId) : Option (CE → List Value → ES → Option (Rt × ES)) := cond (Nat.beq f 98) (some xIndexByte) (cond (Nat.beq f 115) (some xIndex) none)
theorem Xs_sound : ∀ f x, Xs f = some x → ∀ call, CSound (CallsX Try.prog) call → ∀ args e r e', x call args e = some (r, e') → ∀ R : Rt → St → Prop, R r e'.toSt → CallsX Try.prog f args e.toSt R := by
  intro f x hx call _ args e r e' h R hr
  unfold Xs at hx
  cases h1 : Nat.beq f 98 with
  | true =>
    rw [h1] at hx
    cases hx
    rw [Nat.eq_of_beq_eq_true h1]
    exact xIndexByte_sound h hr
  | false =>
    rw [h1] at hx
    simp only [cond_false] at hx
    cases h2 : Nat.beq f 115 with
    | true =>
      rw [h2] at hx
      cases hx
      rw [Nat.eq_of_beq_eq_true h2]
      exact xIndex_sound h hr
    | false => rw [h2] at hx; cases hx

/-- Functions that have been run already, and come to true. -/
def Xt (f0 : FuncId) (f : FuncId) : Option (CE → List Value → ES → Option (Rt × ES)) := cond (Nat.beq f f0) (some fun _ args e => match args with | [] => some (.ret (.bool true), e) | _ => none) (Xs f)
theorem Xt_sound {f0 : FuncId} (h0 : ∀ s (R : Rt → St → Prop), R (.ret (.bool true)) s → CallsX Try.prog f0 [] s R) : ∀ f x, Xt f0 f = some x → ∀ call, CSound (CallsX Try.prog) call → ∀ args e r e', x call args e = some (r, e') → ∀ R : Rt → St → Prop, R r e'.toSt → CallsX Try.prog f args e.toSt R := by
  intro f x hx call hc args e r e' h R hr
  unfold Xt at hx
  cases h1 : Nat.beq f f0 with
  | true =>
    rw [h1] at hx
    cases hx
    rw [Nat.eq_of_beq_eq_true h1]
    simp only at h
    split at h
    · cases h; exact h0 _ R hr
    · cases h
  | false =>
    rw [h1] at hx
    exact Xs_sound f x hx call hc args e r e' h R hr

/-- A run that came to true. -/
def isTrue : Option (Rt × ES) → Bool
  | some (.ret (.bool b), _) => b
  | _ => false
theorem isTrue_spec {x : Option (Rt × ES)} (h : isTrue x = true) : ∃ e, x = some (.ret (.bool true), e) := by
  unfold isTrue at h
  split at h
  · subst h; exact ⟨_, rfl⟩
  · cases h

/-- A call from no memory, from the machine's own world. -/
theorem calls_world {P : Program} {f : FuncId} {args : List Value} {v : Value} (hfl : ∀ x ∈ args, Flat x) (hv : Flat v) (h : CallsX P f args ES.empty.toSt (fun r _ => r = .ret v)) {w : World} (hg : ∃ m, w.cell? ⟨0, 0, none⟩ = some (.int .i64 m)) :
    Calls P f args.toArray w fun e w' => e = .returned v ∧ Below w.heap.size w w' := by
  have hgl : GL { blk := fun k => w.heap[k]?, os := w.os, tape := w.tape, out := w.output } := fun k hk => by
    obtain rfl : k = 0 := Nat.eq_of_beq_eq_true hk
    obtain ⟨m, hm⟩ := hg
    unfold World.cell? at hm
    split at hm
    · rename_i c e fz hc
      exact ⟨c, e, fz, m, hc, by simpa using hm⟩
    · cases hm
  refine (h { blk := fun k => w.heap[k]?, os := w.os, tape := w.tape, out := w.output } (fun _ => none) w args {
    os := rfl, tape := rfl, out := rfl, prot := fun k o h => h, lt := fun _ _ h => (nomatch h), nx := fun i _ => ⟨rfl, rfl⟩, gl := hgl,
    nd := fun _ _ => rfl, nf := fun _ _ _ _ _ h => (nomatch h), ob := fun _ _ h => (nomatch h), sep := fun _ _ _ _ _ _ h => (nomatch h) } (VRs.flat fun v hv => VR.flat (hfl v hv))).mono ?_
  rintro e w' ⟨r, s', m', hrt, hwr, hext, hsz, rfl⟩
  refine ⟨?_, hwr.os, hwr.tape, hwr.out, hsz, fun k hk => ?_⟩
  · cases e with
    | returned v' =>
      have hvv : VR m' v v' := hrt
      rw [VR.flat_inv hv hvv]
    | panicked c => exact hrt.elim
    | outgrown => exact hrt.elim
  · have : w.heap[k]? = some w.heap[k] := by simp [hk]
    rw [this]
    exact hwr.prot k _ this
end Go.Proofs.Ytbcjgolkcfdnfaa.Lib
