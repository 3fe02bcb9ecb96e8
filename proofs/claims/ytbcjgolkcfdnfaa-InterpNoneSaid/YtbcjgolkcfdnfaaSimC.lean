import Derived.Test.YtbcjgolkcfdnfaaSimB
import Derived.Laws.Entries
import Derived.Laws.StructEq
/- Sim, third text: operations that only compute come to the same in the machine. No condition. -/
namespace Go.Proofs.Ytbcjgolkcfdnfaa.Sim
open Go

theorem Sub_of_sub {c vs : List Value} {off n : Nat} (h : sub c off n = some vs) : off + n ≤ c.length ∧ vs = (c.drop off).take n := by
  unfold sub at h
  cases hb : Nat.ble (off + n) c.length
  · simp [hb] at h
  · simp [hb] at h
    exact ⟨Nat.le_of_ble_eq_true hb, h.symm⟩
theorem of_spl {c v c' : List Value} {off : Nat} (h : spl c off v = some c') : off + v.length ≤ c.length ∧ c' = c.take off ++ (v ++ c.drop (off + v.length)) := by
  unfold spl at h
  cases hb : Nat.ble (off + v.length) c.length
  · simp [hb] at h
  · simp [hb] at h
    exact ⟨Nat.le_of_ble_eq_true hb, h.symm⟩

section
variable {P : Program} {m : Mu}

theorem valT_row {t : TypeId} {vs : List Value} (h : rowT P t = true) : valT P t vs = .agg vs.toArray := by simp [valT, h]
theorem valT_one {t : TypeId} {vs : List Value} (h : rowT P t = false) : valT P t vs = vs.headD undef := by simp [valT, h]

theorem isRow_under {t : TypeId} {d : TypeDesc} (h : P.underlying t = some d) : rowT P t = d.isRow := by simp [rowT, h]

theorem run_isAggT (w : World) {t : TypeId} {d : TypeDesc} (h : P.underlying t = some d) : (isAgg t).run P w = .ok (rowT P t) w := by
  unfold isAgg
  rw [Sem.run_bind, run_underlying h w]
  rw [isRow_under h]
  cases d <;> simp [TypeDesc.isRow]

theorem info_of_under {t : TypeId} {d : TypeDesc} (h : P.underlying t = some d) : ∃ i, P.info? t = some i := by
  unfold Program.underlying at h
  cases hi : P.info? t with
  | none => simp [hi] at h
  | some i => exact ⟨i, rfl⟩

theorem run_sizeOfT (w : World) {t : TypeId} {i : TypeInfo} (h : P.info? t = some i) : (sizeOf t).run P w = .ok (sizeT P t) w := by
  simp [sizeOf, typeInfo, h, sizeT]

theorem VR.valT {t : TypeId} {vs vs' : List Value} (h : VRs m vs vs') (h1 : ∀ v ∈ vs, v.oneCell' = true) (hn : rowT P t = true ∨ vs.length = 1) : VR m (valT P t vs) (valT P t vs') := by
  cases hr : rowT P t
  · rw [valT_one hr, valT_one hr]
    rcases hn with hn | hn
    · rw [hr] at hn; cases hn
    · cases h with
      | nil => simp at hn
      | cons h _ => exact h
  · rw [valT_row hr, valT_row hr]
    exact .agg (by simpa using h) (by simpa using h1)

/-- A type's size is one where it is no row. -/
def sizeOk (P : Program) (t : TypeId) : Bool := match P.underlying t with | some _ => rowT P t || Nat.beq (sizeT P t) 1 | none => false

theorem sizeOk_spec {t : TypeId} (h : sizeOk P t = true) : (∃ d, P.underlying t = some d) ∧ (rowT P t = true ∨ sizeT P t = 1) := by
  unfold sizeOk at h
  cases hu : P.underlying t with
  | none => simp [hu] at h
  | some d =>
    simp [hu] at h
    exact ⟨⟨d, rfl⟩, h⟩

theorem run_part (w : World) {t : TypeId} {cs : Array Value} {off : Nat} {vs : List Value} (hok : sizeOk P t = true) (h : sub cs.toList off (sizeT P t) = some vs) :
    (part t cs off).run P w = .ok (valT P t vs) w := by
  obtain ⟨⟨d, hd⟩, h1⟩ := sizeOk_spec hok
  obtain ⟨hl, rfl⟩ := Sub_of_sub h
  obtain ⟨i, hi⟩ := info_of_under hd
  unfold part
  rw [Sem.run_bind, run_isAggT w hd]
  cases hr : rowT P t
  · have h1 : sizeT P t = 1 := h1.resolve_left (by simp [hr])
    rw [h1] at hl ⊢
    rw [valT_one hr]
    have hlt : off < cs.size := by simp at hl; omega
    rw [List.headD_eq_head?_getD, List.head?_take, List.head?_drop]
    simp [Array.getElem?_eq_getElem hlt]
  · rw [valT_row hr]
    simp only [Result.andThen_ok, if_true, Sem.run_bind, run_sizeOfT w hi, Sem.run_pure]
    congr 2
    apply Array.toList_inj.1
    simp [Array.toList_extract, List.extract]

theorem VR.int_inv {k : IntKind} {n : Int} {v' : Value} (h : VR m (.int k n) v') : v' = .int k n := by cases h; rfl
theorem VR.bool_inv {b : Bool} {v' : Value} (h : VR m (.bool b) v') : v' = .bool b := by cases h; rfl
theorem VR.string_inv {s : ByteArray} {v' : Value} (h : VR m (.string s) v') : v' = .string s := by cases h; rfl

theorem VR.ptr_inv {b : Option Addr} {v' : Value} (h : VR m (.pointer b) v') : ∃ b', v' = .pointer b' ∧ b'.isNone = b.isNone := by
  cases h
  · exact ⟨_, rfl, rfl⟩
  · exact ⟨_, rfl, rfl⟩
theorem VR.slice_inv {a : Option Addr} {n c : Nat} {v' : Value} (h : VR m (.slice a n c) v') : ∃ a' n' c', v' = .slice a' n' c' ∧ a'.isNone = a.isNone := by
  cases h
  · exact ⟨_, _, _, rfl, rfl⟩
  · exact ⟨_, _, _, rfl, rfl⟩
  · exact ⟨_, _, _, rfl, rfl⟩

theorem run_intOp (w : World) (op : BinOp) (t : TypeId) (x y : Operand) (k : IntKind) (a b : Int) (v : Value) (kc : Bool)
    (h : binX P op t kc (.int k a) (.int k b) = some v) :
    (do eqGuard op t x y (.int k a) (.int k b); binOp op t (.int k a) (.int k b) : Sem Value).run P w = .ok v w ∧ VR m v v := by
  cases op <;> simp [binX] at h <;> subst h <;>
    refine ⟨?_, by first | exact .int _ _ | exact .bool _⟩ <;>
    simp [eqGuard, binOp, Op.intArith, Op.intBits, Op.intCmp, bits]

theorem run_eqOp (w : World) (op : BinOp) (t : TypeId) (x y : Operand) (u u' : Value) (b : Bool) (v : Value) (hb : eqX op b = some v)
    (hg : ∀ op, (eqGuard op t x y u u').run P w = .ok () w)
    (he : (Op.equal t u u').run P w = .ok b w) (hbin : ∀ op, op = .eql ∨ op = .neq → binOp op t u u' = (match op with | .eql => (do pure (.bool (← Op.equal t u u'))) | _ => (do pure (.bool (!(← Op.equal t u u')))))) :
    (do eqGuard op t x y u u'; binOp op t u u' : Sem Value).run P w = .ok v w ∧ VR m v v := by
  cases op <;> simp [eqX] at hb <;> subst hb
  · refine ⟨?_, .bool _⟩
    rw [Sem.run_bind, hg, hbin _ (.inl rfl)]
    simp [he]
  · refine ⟨?_, .bool _⟩
    rw [Sem.run_bind, hg, hbin _ (.inr rfl)]
    simp [he]

theorem run_equal (w : World) {t : TypeId} (u u' : Value) (b : Bool)
    (hb : ∀ n, (Op.equalIn (n + 2) t u u').run P w = .ok b w) : (Op.equal t u u').run P w = .ok b w := hb 9998

theorem guard_plain (w : World) (t : TypeId) (x y : Operand) (u u' : Value) (h1 : ¬ (u = .nilIface ∧ u' = .nilIface)) (h2 : ∀ a b, ¬ (u = .agg a ∧ u' = .agg b)) (op : BinOp) :
    (eqGuard op t x y u u').run P w = .ok () w := by
  unfold eqGuard
  cases op <;> simp <;> cases u <;> cases u' <;> simp_all

theorem eq_pn (w : World) {t e : TypeId} (hu : P.underlying t = some (.pointer e)) (b : Option Addr) (d : Nat) : (Op.equalIn (d + 1) t (.pointer none) (.pointer b)).run P w = .ok b.isNone w := by
  simp [Op.equalIn, run_underlying hu]
theorem eq_np (w : World) {t e : TypeId} (hu : P.underlying t = some (.pointer e)) (b : Option Addr) (d : Nat) : (Op.equalIn (d + 1) t (.pointer b) (.pointer none)).run P w = .ok b.isNone w := by
  cases b <;> simp [Op.equalIn, run_underlying hu]
theorem eq_sn (w : World) {t e : TypeId} (hu : P.underlying t = some (.slice e)) (b : Option Addr) (i j k l : Nat) (d : Nat) : (Op.equalIn (d + 1) t (.slice none i j) (.slice b k l)).run P w = .ok b.isNone w := by
  simp [Op.equalIn, run_underlying hu]
theorem eq_ns (w : World) {t e : TypeId} (hu : P.underlying t = some (.slice e)) (b : Option Addr) (i j k l : Nat) (d : Nat) : (Op.equalIn (d + 1) t (.slice b k l) (.slice none i j)).run P w = .ok b.isNone w := by
  cases b <;> simp [Op.equalIn, run_underlying hu]

theorem plain_inv {t : TypeId} {x x' : Value} (h : plainT P t x = true) (hv : VR m x x') : x' = x ∧ rowT P t = false := by
  unfold plainT at h
  split at h
  · rename_i hu; exact ⟨hv.int_inv, by simp [rowT, hu, TypeDesc.isRow]⟩
  · rename_i hu; exact ⟨hv.string_inv, by simp [rowT, hu, TypeDesc.isRow]⟩
  · rename_i hu; exact ⟨hv.bool_inv, by simp [rowT, hu, TypeDesc.isRow]⟩
  · cases h

theorem plain_equal (w : World) {t : TypeId} {x y : Value} {b : Bool} (hx : plainT P t x = true) (hy : plainT P t y = true) (h : alikeX x y = some b) (d : Nat) : (Op.equalIn (d + 1) t x y).run P w = .ok b w := by
  unfold alikeX at h
  split at h
  · rename_i k a k' b'
    by_cases hk : k = k'
    · subst hk
      simp only [decide_true, cond_true, Option.some.injEq] at h
      subst h
      unfold plainT at hx
      split at hx
      · rename_i hu e; exact run_equalIn_int w d t k _ a b' hu
      · rename_i hu e; cases e
      · rename_i hu e; cases e
      · cases hx
    · simp [hk] at h
  · rename_i a b'
    cases h
    unfold plainT at hx
    split at hx
    · rename_i hu e; cases e
    · rename_i hu e
      rw [run_equalIn_string w d t a b' hu, ByteArray.toList_eq, ByteArray.toList_eq]
    · rename_i hu e; cases e
    · cases hx
  · rename_i a b'
    cases h
    unfold plainT at hx
    split at hx
    · rename_i hu e; cases e
    · rename_i hu e; cases e
    · rename_i hu e; exact run_equalIn_bool' w d t a b' hu
    · cases hx
  · cases h

theorem plain_part (w : World) {t : TypeId} {x : Value} (h : plainT P t x = true) {cs : Array Value} {off : Nat} (hx : cs[off]? = some x) : (part t cs off).run P w = .ok x w := by
  have hu : ∃ d, P.underlying t = some d ∧ d.isRow = false := by
    unfold plainT at h
    split at h <;> first | exact ⟨_, by assumption, rfl⟩ | cases h
  obtain ⟨d, hd, hr⟩ := hu
  unfold part
  rw [Sem.run_bind, run_isAggT w hd, isRow_under hd, hr]
  simp [hx]

theorem alikes_sound (w : World) {xs ys xs' ys' : Array Value} (h1 : VRs m xs.toList xs'.toList) (h2 : VRs m ys.toList ys'.toList) (d : Nat) : ∀ (fs : List Field) (b : Bool), alikesX P xs ys fs = some b →
    (Op.eqFields (d + 1) xs' ys' fs).run P w = .ok b w
  | [], b, h => by simp only [alikesX, Option.some.injEq] at h; subst h; simp [Op.eqFields]
  | f :: r, b, h => by
    unfold alikesX at h
    cases hx : xs[f.offset]? with
    | none => simp [hx] at h
    | some x =>
    cases hy : ys[f.offset]? with
    | none => simp [hx, hy] at h
    | some y =>
    simp only [hx, hy] at h
    cases hc : (plainT P f.type x && plainT P f.type y && !(f.name == "_") && Nat.beq (sizeT P f.type) 1) with
    | false => simp [hc] at h
    | true =>
    simp only [hc, cond_true] at h
    simp only [Bool.and_eq_true, Bool.not_eq_true', beq_eq_false_iff_ne, ne_eq] at hc
    obtain ⟨⟨⟨hpx, hpy⟩, hne⟩, _⟩ := hc
    obtain ⟨x', hx', hvx⟩ := h1.get f.offset x (by rw [Array.getElem?_toList]; exact hx)
    obtain ⟨y', hy', hvy⟩ := h2.get f.offset y (by rw [Array.getElem?_toList]; exact hy)
    rw [Array.getElem?_toList] at hx' hy'
    obtain ⟨rfl, _⟩ := plain_inv hpx hvx
    obtain ⟨rfl, _⟩ := plain_inv hpy hvy
    cases ha : alikeX x' y' with
    | none => simp [ha] at h
    | some b1 =>
      simp only [ha] at h
      simp only [Op.eqFields, ne_eq, hne, not_false_eq_true, if_true, Sem.run_bind, plain_part w hpx hx', plain_part w hpy hy', Result.andThen_ok, plain_equal w hpx hpy ha d]
      cases b1
      · simp only [Option.some.injEq] at h
        subst h
        simp
      · simp only at h
        simpa using alikes_sound w h1 h2 d r b h

set_option maxHeartbeats 1000000 in
theorem bin_sound (w : World) {op : BinOp} {t : TypeId} {x y : Operand} {u u2 v uc uc2 : Value} (hq : ∀ fs, P.underlying t = some (.struct fs) → P.eqGuardType P.depth t = false ∧ P.stoodInHeld t = false) (h : binX P op t (isConstX x || isConstX y) u u2 = some v) (h1 : VR m u uc) (h2 : VR m u2 uc2) :
    ∃ v', (do eqGuard op t x y uc uc2; binOp op t uc uc2 : Sem Value).run P w = .ok v' w ∧ VR m v v' := by
  unfold binX at h
  split at h
  · rename_i k a k' b
    cases h1.int_inv; cases h2.int_inv
    by_cases hk : k = k'
    · subst hk
      exact ⟨v, run_intOp w op t x y k a b v false (by simpa [binX] using h)⟩
    · simp [hk] at h
  · rename_i a b
    cases h1.string_inv; cases h2.string_inv
    refine ⟨v, ?_⟩
    rw [← ByteArray.toList_eq, ← ByteArray.toList_eq] at h
    cases op <;> simp [eqX] at h <;> subst h <;> refine ⟨?_, .bool _⟩ <;> simp [eqGuard, binOp, Op.stringOp]
  · rename_i a b
    cases h1.bool_inv; cases h2.bool_inv
    split at h
    · rename_i hu
      refine ⟨v, run_eqOp w op t x y _ _ (a == b) v h (guard_plain w t x y _ _ (by simp) (by simp)) (run_equal w _ _ _ fun n => ?_) ?_⟩
      · simp [Op.equalIn, run_underlying hu]
      · rintro op (rfl | rfl) <;> rfl
    · cases h
  · rename_i b
    cases h1
    obtain ⟨b', rfl, hb⟩ := h2.ptr_inv
    split at h
    · rename_i _ hu
      refine ⟨v, run_eqOp w op t x y _ _ b.isNone v h (guard_plain w t x y _ _ (by simp) (by simp)) (run_equal w _ _ _ fun n => ?_) ?_⟩
      · rw [← hb]; exact eq_pn w hu b' _
      · rintro op (rfl | rfl) <;> rfl
    · cases h
  · rename_i b hne
    cases h2
    obtain ⟨b', rfl, hb⟩ := h1.ptr_inv
    split at h
    · rename_i _ hu
      refine ⟨v, run_eqOp w op t x y _ _ b.isNone v h (guard_plain w t x y _ _ (by simp) (by simp)) (run_equal w _ _ _ fun n => ?_) ?_⟩
      · rw [← hb]; exact eq_np w hu b' _
      · rintro op (rfl | rfl) <;> rfl
    · cases h
  · rename_i n c b n' c'
    obtain ⟨a1, m1, c1, rfl, ha⟩ := h1.slice_inv
    obtain ⟨b', n2, c2, rfl, hb⟩ := h2.slice_inv
    cases a1 with
    | some _ => simp at ha
    | none =>
    split at h
    · rename_i _ hu
      refine ⟨v, run_eqOp w op t x y _ _ b.isNone v h (guard_plain w t x y _ _ (by simp) (by simp)) (run_equal w _ _ _ fun n => ?_) ?_⟩
      · rw [← hb]; exact eq_sn w hu b' _ _ _ _ _
      · rintro op (rfl | rfl) <;> rfl
    · cases h
  · rename_i b n c n' c' hne
    obtain ⟨b', m1, c1, rfl, hb⟩ := h1.slice_inv
    obtain ⟨a1, n2, c2, rfl, ha⟩ := h2.slice_inv
    cases a1 with
    | some _ => simp at ha
    | none =>
    split at h
    · rename_i _ hu
      refine ⟨v, run_eqOp w op t x y _ _ b.isNone v h (guard_plain w t x y _ _ (by simp) (by simp)) (run_equal w _ _ _ fun n => ?_) ?_⟩
      · rw [← hb]; exact eq_ns w hu b' _ _ _ _ _
      · rintro op (rfl | rfl) <;> rfl
    · cases h
  · cases h1; cases h2
    cases hk : (isConstX x || isConstX y) with
    | false => simp [hk] at h
    | true =>
    rw [hk] at h
    have hg : ∀ op, (eqGuard op t x y .nilIface .nilIface).run P w = .ok () w := fun op => by
      unfold eqGuard
      cases op <;> simp
      all_goals (cases x <;> cases y <;> simp_all [isConstX])
    split at h
    · rename_i _ hu
      refine ⟨v, run_eqOp w op t x y _ _ true v h hg (run_equal w _ _ _ fun n => ?_) ?_⟩
      · simp [Op.equalIn, run_underlying hu]
      · rintro op (rfl | rfl) <;> rfl
    · cases h
  · cases h1; cases h2
    split at h
    · rename_i _ hu
      refine ⟨v, run_eqOp w op t x y _ _ false v h (guard_plain w t x y _ _ (by simp) (by simp)) (run_equal w _ _ _ fun n => ?_) ?_⟩
      · simp [Op.equalIn, run_underlying hu]
      · rintro op (rfl | rfl) <;> rfl
    · cases h
  · cases h1; cases h2
    split at h
    · rename_i _ hu
      refine ⟨v, run_eqOp w op t x y _ _ false v h (guard_plain w t x y _ _ (by simp) (by simp)) (run_equal w _ _ _ fun n => ?_) ?_⟩
      · simp [Op.equalIn, run_underlying hu]
      · rintro op (rfl | rfl) <;> rfl
    · cases h
  · rename_i xs ys
    split at h
    · rename_i fs hu
      obtain ⟨hg, hs⟩ := hq fs hu
      cases ha : alikesX P xs ys fs.toList with
      | none => simp [ha] at h
      | some b =>
      simp only [ha, Option.bind_some] at h
      cases h1 with
      | agg h1 _ =>
      cases h2 with
      | agg h2 _ =>
      have hf : P.fieldsOf t = fs := by simp [Program.fieldsOf, hu]
      refine ⟨v, run_eqOp w op t x y _ _ b v h (fun op => run_eqGuard_agg w op t x y _ _ hg) ?_ ?_⟩
      · refine run_equal w _ _ _ fun n => ?_
        rw [run_equalIn_struct w (n + 1) t _ _ (by rw [hf]; exact hu) hs, hf]
        exact alikes_sound w h1 h2 n fs.toList b ha
      · rintro op (rfl | rfl) <;> rfl
    · cases h
  · simp at h
end
end Go.Proofs.Ytbcjgolkcfdnfaa.Sim
