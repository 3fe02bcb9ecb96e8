import Derived.Test.YtbcjgolkcfdnfaaSimC
/- Sim, fourth text: operations that only compute, all of them. No condition. -/
namespace Go.Proofs.Ytbcjgolkcfdnfaa.Sim
open Go

section
variable {P : Program} {m : Mu}

theorem append_ofL (a b : ByteArray) : a ++ b = ofL (a.data.toList ++ b.data.toList) := by
  apply ByteArray.ext
  apply Array.ext'
  simp [ofL]
theorem extract_ofL (s : ByteArray) (l h : Nat) : s.extract l h = ofL ((s.data.toList.drop l).take (h - l)) := by
  apply ByteArray.ext
  apply Array.ext'
  simp [ofL, List.extract]

theorem VRs.map2 {ev ρ : Operand → Value} : ∀ {l : List Operand}, (∀ y ∈ l, VR m (ev y) (ρ y)) → VRs m (l.map ev) (l.map ρ)
  | [], _ => .nil
  | y :: l, h => .cons (h y (by simp)) (VRs.map2 fun z hz => h z (by simp [hz]))

/-- What a test of the code's text says of an operation that only computes. -/
def pureOk (P : Program) : Op → Bool
  | .field t _ f => match fieldT P t f with | some fd => sizeOk P fd.type | none => false
  | .build t _ => (match zeroT P t with | some z => flatB 6 z && noTup z | none => false) && (match P.underlying t with | some (.struct fs) => fs.toList.all (fun f => (P.info? f.type).isSome) | some (.array _ e) => (P.info? e).isSome | _ => false)
  | .binOp _ t _ _ _ => (match P.underlying t with | some (.struct _) => !P.eqGuardType P.depth t && !P.stoodInHeld t | _ => true)
  | .typeAssert _ _ t _ => (match zeroT P t with | some z => flatB 6 z | none => true)
  | _ => true

theorem run_assert (w : World) {a u : TypeId} {d : TypeDesc} (hu : P.underlying a = some d) (hn : ∀ ms, d ≠ .interface ms) (t : TypeId) (v : Value) (ok : Bool) :
    (t = a → (Instr.typeAssert (.iface t v) u a ok).run P w = .ok (if ok then .tuple #[v, .bool true] else v) w) ∧
    (∀ z, zeroT P a = some z → (t ≠ a → (Instr.typeAssert (.iface t v) u a true).run P w = .ok (.tuple #[z, .bool false]) w) ∧ (Instr.typeAssert .nilIface u a true).run P w = .ok (.tuple #[z, .bool false]) w) := by
  have hz : ∀ z, zeroT P a = some z → (zeroValue a).run P w = .ok z w := fun z hz => by
    unfold zeroT at hz
    cases hi : P.info? a with
    | none => simp [hi] at hz
    | some i =>
      simp only [hi] at hz
      simp [zeroValue, typeInfo, hi, hz]
  constructor
  · rintro rfl
    simp only [Instr.typeAssert, Sem.run_bind, run_underlying hu, Result.andThen_ok]
    cases d <;> first | exact absurd rfl (hn _) | (cases ok <;> simp)
  · intro z hzz
    refine ⟨fun hne => ?_, ?_⟩
    · simp only [Instr.typeAssert, Sem.run_bind, run_underlying hu, Result.andThen_ok]
      cases d <;> first | exact absurd rfl (hn _) | simp [hne, hz z hzz]
    · simp only [Instr.typeAssert, Sem.run_bind, run_underlying hu, Result.andThen_ok]
      cases d <;> first | exact absurd rfl (hn _) | simp [hz z hzz]

/-! ### Parts put into cells -/
theorem foldl_set (off : Nat) : ∀ (vs : List Value) (k : Nat) (cs : Array Value), off + k + vs.length ≤ cs.size →
    ((vs.zipIdx k).foldl (fun cs (p : Value × Nat) => cs.setIfInBounds (off + p.2) p.1) cs).toList = cs.toList.take (off + k) ++ (vs ++ cs.toList.drop (off + k + vs.length))
  | [], k, cs, _ => by simp
  | v :: vs, k, cs, h => by
    simp only [List.length_cons] at h
    rw [List.zipIdx_cons, List.foldl_cons, foldl_set off vs (k + 1) _ (by simp; omega)]
    have hlt : off + k < cs.toList.length := by simp; omega
    rw [Array.toList_setIfInBounds, show off + (k + 1) = off + k + 1 from by omega, List.take_add_one, List.take_set_of_le (Nat.le_refl _), List.getElem?_set_self hlt, List.drop_set_of_lt (by omega)]
    simp only [Option.toList_some, List.append_assoc, List.cons_append, List.nil_append, List.length_cons]
    congr 4
    omega

theorem fill_sound {place : Nat → Option (Nat × Nat)} {ev ρ : Operand → Value} : ∀ (parts : List (Nat × Operand)) (c r : List Value) (c' : Array Value), (∀ x ∈ parts, VR m (ev x.2) (ρ x.2)) → VRs m c c'.toList → (∀ u ∈ c, u.oneCell' = true) →
    fillX place (parts.map fun x => (x.1, ev x.2)) c = some r → ∃ r', Instr.fill place c' (parts.map fun x => (x.1, ρ x.2)) = some r' ∧ VRs m r r'.toList ∧ ∀ u ∈ r, u.oneCell' = true
  | [], c, r, c', _, hv, h1, h => by
    simp only [List.map_nil, fillX, Option.some.injEq] at h
    subst h
    exact ⟨c', rfl, hv, h1⟩
  | (i, x) :: parts, c, r, c', hx, hv, h1, h => by
    simp only [List.map_cons, fillX] at h
    cases hp : place i with
    | none => simp [hp] at h
    | some os =>
      obtain ⟨off, size⟩ := os
      simp only [hp] at h
      cases hc : (Nat.beq (ev x).cells.size size && noTup (ev x)) with
      | false => simp [hc] at h
      | true =>
      simp only [hc, cond_true] at h
      simp only [Bool.and_eq_true] at hc
      have hsz := Nat.eq_of_beq_eq_true hc.1
      have hvx : VR m (ev x) (ρ x) := hx (i, x) (by simp)
      have hcells := hvx.cells
      have hlen := hcells.len
      simp only [Array.length_toList] at hlen
      cases hs : spl c off (ev x).cells.toList with
      | none => simp [hs] at h
      | some c1 =>
      simp only [hs] at h
      obtain ⟨hle, rfl⟩ := of_spl hs
      have hle' : off + (ρ x).cells.size ≤ c'.size := by
        have h2 := hv.len
        have e := hcells.len
        simp only [Array.length_toList] at h2 e hle
        omega
      have key := foldl_set off (ρ x).cells.toList 0 c' (by simpa using hle')
      have hfold : ((ρ x).cells.zipIdx.foldl (fun cs (p : Value × Nat) => cs.setIfInBounds (off + p.2) p.1) c').toList = c'.toList.take off ++ ((ρ x).cells.toList ++ c'.toList.drop (off + (ρ x).cells.toList.length)) := by
        rw [← Array.foldl_toList, Array.toList_zipIdx]
        simpa using key
      obtain ⟨r', hr', hvr, hone⟩ := fill_sound parts _ r ((ρ x).cells.zipIdx.foldl (fun cs (p : Value × Nat) => cs.setIfInBounds (off + p.2) p.1) c') (fun y hy => hx y (by simp [hy]))
        (by
          rw [hfold]
          have e : (ρ x).cells.toList.length = (ev x).cells.toList.length := hcells.len.symm
          rw [e]
          exact (hv.take off).app (hcells.app (hv.drop _)))
        (by
          intro u hu
          rw [List.mem_append, List.mem_append] at hu
          rcases hu with hu | hu | hu
          · exact h1 u (List.mem_of_mem_take hu)
          · exact hvx.ones hc.2 u hu
          · exact h1 u (List.mem_of_mem_drop hu)) h
      refine ⟨r', ?_, hvr, hone⟩
      simp only [List.map_cons, Instr.fill, hp]
      rw [if_neg]
      · exact hr'
      · have e1 : (ρ x).cells.size = size := by omega
        have e2 : (ev x).cells.toList.length = (ev x).cells.size := by simp
        have e3 : c.length = c'.size := by simpa using hv.len
        show ¬(decide ((ρ x).cells.size ≠ size) || decide (off + (ρ x).cells.size > c'.size)) = true
        rw [Bool.or_eq_true, decide_eq_true_iff, decide_eq_true_iff]
        omega

theorem zero_run (w : World) {t : TypeId} {z : Value} (h : zeroT P t = some z) : (zeroValue t).run P w = .ok z w := by
  unfold zeroT at h
  cases hi : P.info? t with
  | none => simp [hi] at h
  | some i =>
    simp only [hi] at h
    simp [zeroValue, typeInfo, hi, h]

theorem mapM_places (w : World) : ∀ (l : List Go.Field), l.all (fun f => (P.info? f.type).isSome) = true →
    (l.mapM (fun f => do pure (f.offset, ← sizeOf f.type) : Field → Sem (Nat × Nat))).run P w = .ok (l.map fun f => (f.offset, sizeT P f.type)) w
  | [], _ => rfl
  | f :: l, h => by
    simp only [List.all_cons, Bool.and_eq_true] at h
    obtain ⟨i, hi⟩ := Option.isSome_iff_exists.1 h.1
    simp only [List.mapM_cons, Sem.run_bind, run_sizeOfT w hi, Result.andThen_ok, Sem.run_pure, mapM_places w l h.2, List.map_cons]

theorem build_sound (w : World) {t : TypeId} {parts : Array (Nat × Operand)} {ev ρ : Operand → Value} (hok : pureOk P (.build t parts) = true) (hx : ∀ x ∈ parts.toList, VR m (ev x.2) (ρ x.2)) {v : Value}
    (h : buildX P t (parts.toList.map fun x => (x.1, ev x.2)) = some v) : ∃ v', (Instr.build t (parts.map fun (i, x) => (i, ρ x))).run P w = .ok v' w ∧ VR m v v' := by
  simp only [pureOk, Bool.and_eq_true] at hok
  unfold buildX at h
  have hparts : (parts.map fun (i, x) => (i, ρ x)).toList = parts.toList.map fun x => (x.1, ρ x.2) := by rw [Array.toList_map]
  split at h
  · rename_i z fs hz hu
    have hok1 := hok.1
    simp only [hz, Bool.and_eq_true] at hok1
    have hfl : VR m z z := .flat (Flat.of 6 z hok1.1)
    have hok2 := hok.2
    simp only [hu] at hok2
    cases hf : fillX (fun i => (fs[i]?).map fun f => (f.offset, sizeT P f.type)) (parts.toList.map fun x => (x.1, ev x.2)) z.cells.toList with
    | none => simp [hf] at h
    | some c =>
      simp only [hf, Option.map_some, Option.some.injEq] at h
      subst h
      obtain ⟨r', hr', hvr, hone⟩ := fill_sound parts.toList _ c z.cells hx hfl.cells (hfl.ones hok1.2) hf
      refine ⟨.agg r', ?_, .agg (by simpa using hvr) (by simpa using hone)⟩
      have hmap : (fs.mapM (fun f => do pure (f.offset, ← sizeOf f.type) : Field → Sem (Nat × Nat))).run P w = .ok (fs.map fun (f : Go.Field) => (f.offset, sizeT P f.type)) w := by
        rw [Array.mapM_eq_mapM_toList, Sem.run_map, mapM_places w fs.toList hok2]
        simp only [Result.andThen_ok]
        congr 1
        apply Array.toList_inj.1
        simp
      unfold Instr.build
      simp only [Sem.run_bind, zero_run w hz, Result.andThen_ok, run_underlying hu, hmap, hparts]
      have hpl : (fun (i : Nat) => (fs.map fun (f : Go.Field) => (f.offset, sizeT P f.type))[i]?) = fun (i : Nat) => (fs[i]?).map fun (f : Go.Field) => (f.offset, sizeT P f.type) := by
        funext i; simp
      simp only [hpl, hr', Sem.run_pure]
  · rename_i z n e hz hu
    have hok1 := hok.1
    simp only [hz, Bool.and_eq_true] at hok1
    have hfl : VR m z z := .flat (Flat.of 6 z hok1.1)
    have hok2 := hok.2
    simp only [hu] at hok2
    obtain ⟨ie, hie⟩ := Option.isSome_iff_exists.1 hok2
    cases hf : fillX (fun i => some (i * sizeT P e, sizeT P e)) (parts.toList.map fun x => (x.1, ev x.2)) z.cells.toList with
    | none => simp [hf] at h
    | some c =>
      simp only [hf, Option.map_some, Option.some.injEq] at h
      subst h
      obtain ⟨r', hr', hvr, hone⟩ := fill_sound parts.toList _ c z.cells hx hfl.cells (hfl.ones hok1.2) hf
      refine ⟨.agg r', ?_, .agg (by simpa using hvr) (by simpa using hone)⟩
      unfold Instr.build
      simp only [Sem.run_bind, zero_run w hz, Result.andThen_ok, run_underlying hu, run_sizeOfT w hie, hparts, hr', Sem.run_pure]
  · simp at h

theorem sizeT_info {t : TypeId} (h : sizeT P t ≠ 0) : ∃ i, P.info? t = some i := by
  unfold sizeT at h
  cases hi : P.info? t with
  | none => simp [hi] at h
  | some i => exact ⟨i, rfl⟩

theorem fieldT_under {t : TypeId} {f : Nat} {fd : Field} (h : fieldT P t f = some fd) : ∃ fs, P.underlying t = some (.struct fs) ∧ fs[f]? = some fd := by
  unfold fieldT at h
  cases hu : P.underlying t with
  | none => simp [hu] at h
  | some d => cases d <;> simp [hu] at h; exact ⟨_, rfl, h⟩

theorem run_fieldAt (w : World) {t : TypeId} {f : Nat} {fd : Field} (h : fieldT P t f = some fd) (hs : sizeT P fd.type ≠ 0) (b o : Nat) :
    (Instr.fieldAt t (.pointer (some ⟨b, o, none⟩)) f).run P w = .ok (.pointer (some ⟨b, o + fd.offset, none⟩)) w := by
  obtain ⟨fs, hu, hf⟩ := fieldT_under h
  obtain ⟨i, hi⟩ := sizeT_info hs
  have hsz : (sizeOf fd.type).run P w = .ok (sizeT P fd.type) w := run_sizeOfT w hi
  simp [Instr.fieldAt, run_underlying hu, hf, Instr.sureAddr, fieldPlace, hsz, hs, Addr.add_mid]

theorem blt_pos {n : Nat} (h : Nat.blt 0 n = true) : n ≠ 0 := by
  have : 0 < n := Nat.le_of_ble_eq_true h
  omega

theorem pure_sound (w : World) {o : Oper} {ev ρ : Operand → Value} (hx : ∀ x ∈ o.op.operands, VR m (ev x) (ρ x)) (hok : pureOk P o.op = true) {v : Value} (h : pureX P o.op ev = some v) :
    ∃ v', (execOp ρ o).run P w = .ok (.value v') w ∧ VR m v v' := by
  obtain ⟨dst, op, type, pos, after, guard⟩ := o
  simp only at hx hok h
  unfold pureX at h
  split at h
  · rename_i x
    cases h
    exact ⟨ρ x, by simp [execOp], hx x (by simp [Op.operands])⟩
  · rename_i x
    cases h
    exact ⟨ρ x, by simp [execOp], hx x (by simp [Op.operands])⟩
  · rename_i c x y
    have hc := hx c (by simp [Op.operands])
    split at h
    · rename_i b hb
      cases h
      rw [hb] at hc
      refine ⟨if b then ρ x else ρ y, by simp [execOp, hc.bool_inv, asBool], ?_⟩
      cases b
      · exact hx y (by simp [Op.operands])
      · exact hx x (by simp [Op.operands])
    · simp at h
  · rename_i op t x y yt
    obtain ⟨v', h1, h2⟩ := bin_sound (P := P) w (fun fs hu => by simpa [pureOk, hu] using hok) h (hx x (by simp [Op.operands])) (hx y (by simp [Op.operands]))
    refine ⟨v', ?_, h2⟩
    simp only [execOp, Sem.run_bind]
    simp only [Sem.run_bind] at h1
    rw [h1]
    simp
  · rename_i op t x
    have hv := hx x (by simp [Op.operands])
    split at h
    · rename_i k n _ he
      cases h
      rw [he] at hv
      exact ⟨_, by simp [execOp, hv.int_inv, Op.unary, Op.intArith], .int _ _⟩
    · rename_i b _ he
      cases h
      rw [he] at hv
      exact ⟨_, by simp [execOp, hv.bool_inv, Op.unary], .bool _⟩
    · rename_i k n _ he
      cases h
      rw [he] at hv
      exact ⟨_, by simp [execOp, hv.int_inv, Op.unary, Op.intBits, bits], .int _ _⟩
    · simp at h
  · rename_i t x f
    have hv := hx x (by simp [Op.operands])
    split at h
    · rename_i ad fd he hf
      cases hb : Nat.blt 0 (sizeT P fd.type) with
      | false => simp [hb] at h
      | true =>
      simp only [hb, cond_true, Option.some.injEq] at h
      subst h
      rw [he] at hv
      generalize hρ : ρ x = u at hv
      cases hv with
      | @ptr i off p hm =>
        refine ⟨.pointer (some ⟨p.b, p.base + (off + fd.offset), none⟩), ?_, .ptr hm⟩
        simp [execOp, hρ, run_fieldAt w hf (blt_pos hb), Nat.add_assoc]
    · simp at h
  · rename_i t x f
    have hv := hx x (by simp [Op.operands])
    split at h
    · rename_i cs fd he hf
      obtain ⟨fs, hu, hfs⟩ := fieldT_under hf
      cases hs : sub cs.toList fd.offset (sizeT P fd.type) with
      | none => simp [hs] at h
      | some vs =>
      simp only [hs, Option.map_some, Option.some.injEq] at h
      subst h
      rw [he] at hv
      generalize hρ : ρ x = u at hv
      cases hv with
      | @agg _ cs' hcs h1 =>
        have hok' : sizeOk P fd.type = true := by simpa [pureOk, hf] using hok
        obtain ⟨hl, rfl⟩ := Sub_of_sub hs
        have hs' : sub cs'.toList fd.offset (sizeT P fd.type) = some ((cs'.toList.drop fd.offset).take (sizeT P fd.type)) := by
          unfold sub
          rw [← hcs.len, Nat.ble_eq_true_of_le hl]
          rfl
        have hp := run_part (P := P) w hok' hs'
        refine ⟨valT P fd.type ((cs'.toList.drop fd.offset).take (sizeT P fd.type)), by simp [execOp, hρ, Instr.field, run_underlying hu, hfs, asAgg, hp], ?_⟩
        refine VR.valT ((hcs.drop _).take _) (fun v hv => h1 v (List.mem_of_mem_drop (List.mem_of_mem_take hv))) ?_
        rcases (sizeOk_spec hok').2 with h' | h'
        · exact .inl h'
        · right
          rw [List.length_take, List.length_drop, h']
          omega
    · simp at h
  · rename_i x i
    have hv := hx x (by simp [Op.operands])
    split at h
    · rename_i vs he
      rw [he] at hv
      generalize hρ : ρ x = u at hv
      cases hv with
      | @tuple _ cs' hcs =>
        obtain ⟨v', h1, h2⟩ := hcs.get i v (by simpa using h)
        have h1' : cs'[i]? = some v' := by simpa using h1
        exact ⟨v', by simp [execOp, hρ, Instr.extract, h1'], h2⟩
    · simp at h
  · rename_i x
    have hv := hx x (by simp [Op.operands])
    split at h
    · rename_i ad he
      cases h
      rw [he] at hv
      generalize hρ : ρ x = u at hv
      cases hv with
      | @ptr i off p hm => exact ⟨_, by simp [execOp, hρ], .ptr hm⟩
    · simp at h
  · rename_i t parts
    obtain ⟨v', h1, h2⟩ := build_sound (ρ := ρ) w hok (fun x hx' => hx x.2 (by simp [Op.operands]; exact ⟨x.1, by simpa using hx'⟩)) h
    exact ⟨v', by simp [execOp, h1], h2⟩
  · rename_i t u x
    have hv := hx x (by simp [Op.operands])
    split at h
    · rename_i k' k k0 n0 ht hu he
      cases h
      rw [he] at hv
      exact ⟨_, by simp [execOp, convert, run_underlying ht, run_underlying hu, hv.int_inv, Conv.intToInt], .int _ _⟩
    · rename_i b ht hu he
      cases h
      rw [he] at hv
      exact ⟨_, by simp [execOp, convert, run_underlying ht, run_underlying hu, hv.string_inv], .string _⟩
    · simp at h
  · rename_i f first captured
    cases h
    refine ⟨.func (.func f) (first.map ρ) (captured.map ρ), by simp [execOp, Instr.makeFunc], .func ?_ ?_⟩
    · rw [Array.toList_map, Array.toList_map]
      exact VRs.map2 fun y hy => hx y (by simp [Op.operands]; exact .inl (by simpa using hy))
    · rw [Array.toList_map, Array.toList_map]
      exact VRs.map2 fun y hy => hx y (by simp [Op.operands]; exact .inr (by simpa using hy))
  · rename_i args argTypes
    split at h
    · rename_i x y hxs
      have hargs : args = #[x, y] := by apply Array.toList_inj.1; simpa using hxs
      subst hargs
      have hv := hx x (by simp [Op.operands, Call.operands])
      have hw := hx y (by simp [Op.operands, Call.operands])
      split at h
      · rename_i k n k' n' h1 h2
        cases h
        rw [h1] at hv; rw [h2] at hw
        exact ⟨_, by simp [execOp, resolve, invoke, builtin, Builtin.max_, Builtin.max2, hv.int_inv, hw.int_inv], .int _ _⟩
      · simp at h
    · simp at h
  · rename_i args argTypes
    split at h
    · rename_i x y hxs
      have hargs : args = #[x, y] := by apply Array.toList_inj.1; simpa using hxs
      subst hargs
      have hv := hx x (by simp [Op.operands, Call.operands])
      have hw := hx y (by simp [Op.operands, Call.operands])
      split at h
      · rename_i k n k' n' h1 h2
        cases h
        rw [h1] at hv; rw [h2] at hw
        exact ⟨_, by simp [execOp, resolve, invoke, builtin, Builtin.min_, Builtin.min2, hv.int_inv, hw.int_inv], .int _ _⟩
      · simp at h
    · simp at h
  · rename_i x u a ok
    have hv := hx x (by simp [Op.operands])
    split at h
    · cases h
    · rename_i d t v0 hnd hu he
      rw [he] at hv
      generalize hρ : ρ x = uu at hv
      cases hv with
      | @iface _ _ v' hvv =>
      obtain ⟨r1, r2⟩ := run_assert (P := P) w (u := u) hu (fun ms e => hnd ms e) t v' ok
      by_cases hta : t = a
      · simp only [hta, decide_true, cond_true, Option.some.injEq] at h
        subst h
        refine ⟨if ok then .tuple #[v', .bool true] else v', by simp only [execOp, hρ, Sem.run_bind, r1 hta, Result.andThen_ok, Sem.run_pure], ?_⟩
        cases ok
        · exact hvv
        · exact .tuple (.cons hvv (.cons (.bool _) .nil))
      · simp only [hta, decide_false, cond_false] at h
        cases ok with
        | false => simp at h
        | true =>
        cases hz : zeroT P a with
        | none => simp [hz] at h
        | some z =>
        simp only [hz, cond_true, Option.map_some, Option.some.injEq] at h
        subst h
        have hfl : flatB 6 z = true := by simpa [pureOk, hz] using hok
        exact ⟨_, by simp only [execOp, hρ, Sem.run_bind, (r2 z hz).1 hta, Result.andThen_ok, Sem.run_pure], .tuple (.cons (.flat (Flat.of 6 z hfl)) (.cons (.bool _) .nil))⟩
    · rename_i d hnd hu he
      rw [he] at hv
      generalize hρ : ρ x = uu at hv
      cases hv
      cases ok with
      | false => simp at h
      | true =>
      cases hz : zeroT P a with
      | none => simp [hz] at h
      | some z =>
      simp only [hz, cond_true, Option.map_some, Option.some.injEq] at h
      subst h
      have hfl : flatB 6 z = true := by simpa [pureOk, hz] using hok
      have hr := ((run_assert (P := P) w (u := u) hu (fun ms e => hnd ms e) 0 undef true).2 z hz).2
      exact ⟨.tuple #[z, .bool false], by simp only [execOp, hρ, Sem.run_bind, hr, Result.andThen_ok, Sem.run_pure], .tuple (.cons (.flat (Flat.of 6 z hfl)) (.cons (.bool _) .nil))⟩
    · cases h
  · rename_i t x
    have hv := hx x (by simp [Op.operands])
    split at h
    · simp at h
    · rename_i d hne hu
      cases h
      refine ⟨.iface t (ρ x), ?_, .iface hv⟩
      cases d <;> simp [execOp, Instr.makeInterface, run_underlying hu] at hne ⊢
    · simp at h
  · rename_i args argTypes
    split at h
    · rename_i x t hxs hts
      have hargs : args = #[x] := by apply Array.toList_inj.1; simpa using hxs
      have htys : argTypes = #[t] := by apply Array.toList_inj.1; simpa using hts
      subst hargs; subst htys
      have hv := hx x (by simp [Op.operands, Call.operands])
      split at h
      · rename_i s hs hu
        cases h
        rw [hs] at hv
        exact ⟨_, by simp [execOp, resolve, invoke, builtin, Builtin.len_, run_underlying hu, hv.string_inv, goInt], .int _ _⟩
      · rename_i a n c he hs hu
        cases h
        rw [hs] at hv
        generalize hρ : ρ x = u at hv
        have : ∃ a' c', u = .slice a' n c' := by cases hv <;> exact ⟨_, _, rfl⟩
        obtain ⟨a', c', rfl⟩ := this
        exact ⟨_, by simp [execOp, resolve, invoke, builtin, Builtin.len_, run_underlying hu, hρ, goInt], .int _ _⟩
      · simp at h
    · simp at h
  · simp at h

theorem elemT_under {t e : TypeId} (h : elemT P t = some e) : P.underlying t = some (.slice e) := by
  unfold elemT at h
  split at h
  · rename_i e' hu; cases h; exact hu
  · simp at h

/-- What a test of the code's text says of an operation that only computes where something holds. -/
def sideOk (P : Program) : Op → Bool
  | .indexAddr t _ _ => match P.underlying t with | some (.slice e) => Nat.blt 0 (sizeT P e) | some (.array _ e) => Nat.blt 0 (sizeT P e) | _ => false
  | .index t _ _ => match P.underlying t with | some .string => true | _ => false
  | .slice t _ _ _ _ => match P.underlying t with | some (.slice e) => Nat.blt 0 (sizeT P e) | some .string => true | _ => false
  | _ => true

theorem bound_sound {ev ρ : Operand → Value} {d : Int} {y : Option Operand} {l : Int} (h : boundX ev d y = some l) (hy : ∀ x, y = some x → VR m (ev x) (ρ x)) :
    (y = none ∧ l = d) ∨ ∃ x k, y = some x ∧ ρ x = .int k l := by
  cases y with
  | none => simp [boundX] at h; exact .inl ⟨rfl, h.symm⟩
  | some x =>
    simp only [boundX] at h
    split at h
    · rename_i k n he
      cases h
      have := hy x rfl
      rw [he] at this
      exact .inr ⟨x, k, rfl, this.int_inv⟩
    · simp at h

theorem run_bounds (w : World) {ρ : Operand → Value} (isS : Bool) (len cap : Nat) {lo hi : Option Operand} {l h : Int} (h0 : 0 ≤ l) (h1 : l ≤ h) (h2 : h ≤ len) (h3 : len ≤ cap)
    (hl : (lo = none ∧ l = 0) ∨ ∃ x k, lo = some x ∧ ρ x = .int k l) (hh : (hi = none ∧ h = len) ∨ ∃ x k, hi = some x ∧ ρ x = .int k h) :
    (Instr.sliceBounds isS len cap (lo.map ρ) (hi.map ρ) none).run P w = .ok (l.toNat, h.toNat, cap) w := by
  have hb : ∀ (x : Operand) k n (y : Nat) code, ρ x = .int k n → 0 ≤ n → n ≤ y → (Instr.sliceBound (ρ x) y code).run P w = .ok n.toNat w := by
    intro x k n y code hx hn0 hny
    simp [Instr.sliceBound, hx, asIntOf, hn0, hny]
  unfold Instr.sliceBounds
  rcases hh with ⟨rfl, rfl⟩ | ⟨x, k, rfl, hx⟩
  · rcases hl with ⟨rfl, rfl⟩ | ⟨y, k', rfl, hy⟩
    · simp
    · simp [hb y k' l len _ hy h0 h1]
  · have hbx := fun code => hb x k h cap code hx (Int.le_trans h0 h1) (by omega)
    rcases hl with ⟨rfl, rfl⟩ | ⟨y, k', rfl, hy⟩
    · simp [hbx]
    · have hby := fun code => hb y k' l h.toNat code hy h0 (by omega)
      simp [hbx, hby]

theorem elem_size (w : World) {e : TypeId} (hs : Nat.blt 0 (sizeT P e) = true) : (sizeOf e).run P w = .ok (sizeT P e) w := by
  obtain ⟨ie, hie⟩ := sizeT_info (blt_pos hs)
  exact run_sizeOfT w hie

theorem side_sound (w : World) {o : Oper} {ev ρ : Operand → Value} (hx : ∀ x ∈ o.op.operands, VR m (ev x) (ρ x)) (hok : sideOk P o.op = true) {c : Prop} {v : Value} (h : sideX P o.op ev = some (c, v)) (hc : c) :
    ∃ v', (execOp ρ o).run P w = .ok (.value v') w ∧ VR m v v' := by
  obtain ⟨dst, op, type, pos, after, guard⟩ := o
  simp only at hx hok h
  unfold sideX at h
  split at h
  · rename_i t x ix
    have hv := hx x (by simp [Op.operands])
    have hi := hx ix (by simp [Op.operands])
    split at h
    · rename_i ad n sz k i he hie
      split at h
      · rename_i e hel
        simp only [Option.some.injEq, Prod.mk.injEq] at h
        obtain ⟨rfl, rfl⟩ := h
        obtain ⟨h0, h1⟩ := hc
        rw [he] at hv
        rw [hie] at hi
        have hu := elemT_under hel
        have hsz : (sizeOf e).run P w = .ok (sizeT P e) w := elem_size w (by simpa [sideOk, hu] using hok)
        generalize hρ : ρ x = u at hv
        cases hv with
        | @sl j off _ cap _ p hm hl ht =>
          refine ⟨.pointer (some ⟨p.b, p.base + (off + i.toNat * sizeT P e), none⟩), ?_, .ptr hm⟩
          simp [execOp, hρ, hi.int_inv, Instr.indexAt, asIntOf, run_underlying hu, h0, h1, hsz, Addr.add_mid, Nat.add_assoc]
        | esl => omega
      · simp at h
    · rename_i ad k i he hie
      split at h
      · rename_i n e hu
        simp only [Option.some.injEq, Prod.mk.injEq] at h
        obtain ⟨rfl, rfl⟩ := h
        obtain ⟨h0, h1⟩ := hc
        rw [he] at hv
        rw [hie] at hi
        have hsz : (sizeOf e).run P w = .ok (sizeT P e) w := elem_size w (by simpa [sideOk, hu] using hok)
        generalize hρ : ρ x = u at hv
        cases hv with
        | @ptr j off p hm =>
          refine ⟨.pointer (some ⟨p.b, p.base + (off + i.toNat * sizeT P e), none⟩), ?_, .ptr hm⟩
          simp [execOp, hρ, hi.int_inv, Instr.indexAt, asIntOf, run_underlying hu, h0, h1, hsz, Addr.add_mid, Nat.add_assoc, Instr.sureAddr]
      · simp at h
    · simp at h
  · rename_i t x ix
    have hv := hx x (by simp [Op.operands])
    have hi := hx ix (by simp [Op.operands])
    split at h
    · rename_i s k i he hie
      simp only [Option.some.injEq, Prod.mk.injEq] at h
      obtain ⟨rfl, rfl⟩ := h
      obtain ⟨h0, h1⟩ := hc
      rw [he] at hv
      rw [hie] at hi
      cases hu : P.underlying t with
      | none => simp [sideOk, hu] at hok
      | some d =>
        cases d <;> simp [sideOk, hu] at hok
        refine ⟨_, ?_, .int _ _⟩
        have hlt : i.toNat < s.size := by omega
        have hg : s[i.toNat]? = some (s.data.getD i.toNat 0) := by
          have hlt' : i.toNat < s.data.size := hlt
          rw [getElem?_pos s i.toNat hlt]
          show some (s.data[i.toNat]'hlt') = _
          simp [Array.getD]; omega
        simp [execOp, hv.string_inv, hi.int_inv, Instr.index, asIntOf, run_underlying hu, h0, hg]
    · simp at h
  · rename_i op t x y yt
    have hv := hx x (by simp [Op.operands])
    have hw := hx y (by simp [Op.operands])
    split at h
    · rename_i k a k' b h1 h2
      rw [h1] at hv; rw [h2] at hw
      by_cases hk : k = k'
      · subst hk
        simp only [decide_true, cond_true, Option.some.injEq, Prod.mk.injEq] at h
        obtain ⟨rfl, rfl⟩ := h
        exact ⟨_, by simp [execOp, hv.int_inv, hw.int_inv, eqGuard, binOp, Op.intDiv, hc], .int _ _⟩
      · simp [hk] at h
    · rename_i k a k' b h1 h2
      rw [h1] at hv; rw [h2] at hw
      by_cases hk : k = k'
      · subst hk
        simp only [decide_true, cond_true, Option.some.injEq, Prod.mk.injEq] at h
        obtain ⟨rfl, rfl⟩ := h
        exact ⟨_, by simp [execOp, hv.int_inv, hw.int_inv, eqGuard, binOp, Op.intDiv, hc], .int _ _⟩
      · simp [hk] at h
    · rename_i k a k' b h1 h2
      rw [h1] at hv; rw [h2] at hw
      simp only [Option.some.injEq, Prod.mk.injEq] at h
      obtain ⟨rfl, rfl⟩ := h
      exact ⟨_, by simp [execOp, hv.int_inv, hw.int_inv, eqGuard, binOp, Op.shift, show ¬ b < 0 from by omega], .int _ _⟩
    · rename_i k a k' b h1 h2
      rw [h1] at hv; rw [h2] at hw
      simp only [Option.some.injEq, Prod.mk.injEq] at h
      obtain ⟨rfl, rfl⟩ := h
      exact ⟨_, by simp [execOp, hv.int_inv, hw.int_inv, eqGuard, binOp, Op.shift, show ¬ b < 0 from by omega], .int _ _⟩
    · rename_i a b h1 h2
      rw [h1] at hv; rw [h2] at hw
      simp only [Option.some.injEq, Prod.mk.injEq] at h
      obtain ⟨rfl, rfl⟩ := h
      have hm : IntKind.i64.max = 9223372036854775807 := by decide
      have : ¬ (9223372036854775807 < (a.size : Int) + b.size) := by omega
      exact ⟨_, by simp [execOp, hv.string_inv, hw.string_inv, eqGuard, binOp, Op.stringOp, hm, this]; exact append_ofL a b, .string _⟩
    · simp at h
  · rename_i t x lo hi
    have hv := hx x (by simp [Op.operands])
    have hlo : ∀ y, lo = some y → VR m (ev y) (ρ y) := fun y hy => hx y (by subst hy; simp [Op.operands])
    have hhi : ∀ y, hi = some y → VR m (ev y) (ρ y) := fun y hy => hx y (by subst hy; simp [Op.operands])
    split at h
    · rename_i s he hu
      split at h
      · rename_i l h' hl hh
        simp only [Option.some.injEq, Prod.mk.injEq] at h
        obtain ⟨rfl, rfl⟩ := h
        rw [he] at hv
        obtain ⟨c0, c1, c2⟩ := hc
        have := run_bounds (P := P) (ρ := ρ) w false s.size s.size c0 c1 c2 (Nat.le_refl _) (bound_sound hl hlo) (bound_sound hh hhi)
        exact ⟨_, by simp [execOp, hv.string_inv, Instr.sliceAt, Instr.slice, run_underlying hu, this]; exact extract_ofL s _ _, .string _⟩
      · simp at h
    · rename_i ad n sz e he hu
      split at h
      · rename_i l h' hl hh
        cases hb : (Nat.beq (sizeT P e) sz && ad.spot.isNone) with
        | false => simp [hb] at h
        | true =>
        simp only [hb, cond_true, Option.some.injEq, Prod.mk.injEq] at h
        obtain ⟨rfl, rfl⟩ := h
        simp only [Bool.and_eq_true] at hb
        obtain rfl := Nat.eq_of_beq_eq_true hb.1
        rw [he] at hv
        obtain ⟨c0, c1, c2⟩ := hc
        have hsz : (sizeOf e).run P w = .ok (sizeT P e) w := elem_size w (by simpa [sideOk, hu] using hok)
        generalize hρ : ρ x = u at hv
        cases hv with
        | @sl j off _ cap _ p hm hlc ht =>
          have := run_bounds (P := P) (ρ := ρ) w true n cap c0 c1 c2 hlc (bound_sound hl hlo) (bound_sound hh hhi)
          by_cases hcl : cap = l.toNat
          · subst hcl
            refine ⟨.slice (some ⟨p.b, p.base + off, none⟩) (h'.toNat - l.toNat) (l.toNat - l.toNat), by simp [execOp, hρ, Instr.sliceAt, Instr.slice, run_underlying hu, this, hsz], ?_⟩
            have e1 : h'.toNat - l.toNat = 0 := by omega
            have e2 : l.toNat - l.toNat = 0 := by omega
            rw [e1, e2]
            exact .esl
          · refine ⟨.slice (some ⟨p.b, p.base + (off + l.toNat * sizeT P e), none⟩) (h'.toNat - l.toNat) (cap - l.toNat), by simp [execOp, hρ, Instr.sliceAt, Instr.slice, run_underlying hu, this, hsz, hcl, Addr.add_mid, Nat.add_assoc], ?_⟩
            refine .sl hm (by omega) ?_
            rw [Nat.sub_mul]
            have : l.toNat * sizeT P e ≤ cap * sizeT P e := Nat.mul_le_mul_right _ (by omega)
            show p.base + (off + l.toNat * sizeT P e) + (cap * sizeT P e - l.toNat * sizeT P e) ≤ p.top
            omega
        | @esl _ _ _ a' =>
          have := run_bounds (P := P) (ρ := ρ) w true 0 0 c0 c1 c2 (Nat.le_refl _) (bound_sound hl hlo) (bound_sound hh hhi)
          have e1 : l.toNat = 0 := by omega
          have e2 : h'.toNat = 0 := by omega
          rw [e1, e2] at this
          refine ⟨.slice (some a') 0 0, by simp [execOp, hρ, Instr.sliceAt, Instr.slice, run_underlying hu, this, hsz], ?_⟩
          rw [e1, e2]
          exact .esl
      · simp at h
    · rename_i n' c' e he hu
      split at h
      · rename_i l h' hl hh
        simp only [Option.some.injEq, Prod.mk.injEq] at h
        obtain ⟨rfl, rfl⟩ := h
        obtain ⟨rfl, rfl⟩ := hc
        rw [he] at hv
        have hsz : (sizeOf e).run P w = .ok (sizeT P e) w := elem_size w (by simpa [sideOk, hu] using hok)
        generalize hρ : ρ x = u at hv
        cases hv with
        | nilsl =>
          have := run_bounds (P := P) (ρ := ρ) w true 0 0 (Int.le_refl _) (Int.le_refl _) (by omega) (Nat.le_refl _) (bound_sound hl hlo) (bound_sound hh hhi)
          exact ⟨.slice none 0 0, by simp [execOp, hρ, Instr.sliceAt, Instr.slice, run_underlying hu, this, hsz], .nilsl⟩
      · simp at h
    · simp at h
  · simp at h
end
end Go.Proofs.Ytbcjgolkcfdnfaa.Sim
