import Derived.Test.YtbcjgolkcfdnfaaSimEf
/- Sim: more operations that do something with what others know. No condition. -/
namespace Go.Proofs.Ytbcjgolkcfdnfaa.Sim
open Go
section
variable {P : Program} {pr : Pr} {m m0 : Mu} {s : St} {w : World}

/-- What such an operation leaves, by the machine's own value. -/
def EffV (P : Program) (pr : Pr) (m : Mu) (w : World) (K : Value → St → Prop) (x : Sem Value) : Prop :=
  ∃ v s' m' v' w', K v s' ∧ VR m' v v' ∧ WR pr m' s' w' ∧ Ext m w.heap.size m' ∧ w.heap.size ≤ w'.heap.size ∧
    (∀ k, k < w.heap.size → (∀ i p, m i = some p → p.b ≠ k) → w'.heap[k]? = w.heap[k]?) ∧ x.run P w = .ok v' w'

theorem EffV.same {K : Value → St → Prop} {x : Sem Value} {v v' : Value} (h : WR pr m s w) (hk : K v s) (hv : VR m v v') (hr : x.run P w = .ok v' w) : EffV P pr m w K x :=
  ⟨v, s, m, v', w, hk, hv, h, Ext.refl m _, Nat.le_refl _, fun _ _ _ => rfl, hr⟩

/-! ### Cells put into what a slice shows -/
theorem put_sound (h : WR pr m s w) {d d' : Value} {cs : List Value} {cs' : List Value} (hd : VR m d d') (hc : VRs m cs cs') (h1 : ∀ u ∈ cs, u.oneCell' = true) (h0 : lenX d = 0 → cs = []) {K : St → Prop} (hk : putX s d cs K)
    {base : Option Addr} {len cap : Nat} (he : d' = .slice base len cap) :
    ∃ s' w', K s' ∧ WR pr m s' w' ∧ w'.heap.size = w.heap.size ∧ (∀ k, k < w.heap.size → (∀ i p, m i = some p → p.b ≠ k) → w'.heap[k]? = w.heap[k]?) ∧
      (match base with | some a => (storeCells a cs').run P w | none => .ok () w) = .ok () w' := by
  unfold putX at hk
  split at hk
  · cases hc
    refine ⟨s, w, hk, h, rfl, fun _ _ _ => rfl, ?_⟩
    cases base <;> rfl
  · rename_i i off n sz hne
    obtain ⟨c, c', ho, hs, hk⟩ := hk
    subst he
    cases hd with
    | esl => exact absurd (h0 rfl) (by rintro rfl; exact hne rfl)
    | @sl _ _ _ _ _ p hp hlc ht =>
      obtain ⟨q, hq, hth, hwr⟩ := h.store ho hs hc h1
      rw [hp] at hq; cases hq
      obtain ⟨q1, q2, q3, q4⟩ := setCells_os p.b cs' (p.base + off) w
      refine ⟨_, _, hk, hwr, q4, fun k _ hk => setCells_ne p.b (fun e => hk i p hp e.symm) _ _ w, ?_⟩
      have := run_storeCells_cells (P := P) p.b (p.base + off) cs' 0 w (fun j hj => by simpa using (hth j hj).1) (fun j hj => by simpa using (hth j hj).2) (hc.ones h1)
      simpa using this
  · exact hk.elim

theorem first_sound (h : WR pr m s w) {sz k n : Nat} {y y' : Value} {news : List Value} (hv : VR m y y') (hle : k ≤ lenX y) (hn : newsX s sz (truncX k y) = some (news, n)) :
    ∃ news' : Array Value, (Builtin.lenOf y').run P w = .ok (lenX y) w ∧ (Builtin.firstCells sz k y').run P w = .ok news' w ∧ VRs m news news'.toList ∧ (∀ u ∈ news, u.oneCell' = true) ∧ n = k ∧ news.length = k * sz := by
  cases hv with
  | nilsl =>
    simp only [truncX, newsX, Option.some.injEq, Prod.mk.injEq] at hn
    obtain ⟨rfl, rfl⟩ := hn
    have : k = 0 := by simpa [lenX] using hle
    subst this
    exact ⟨#[], by simp [Builtin.lenOf, lenX], by simp [Builtin.firstCells], .nil, by simp, rfl, by simp⟩
  | @sl i off len cap sz' p hp hlc ht =>
    obtain ⟨news', _, hf, hvn, h1, hl⟩ := news_sound (P := P) h (y' := .slice (some ⟨p.b, p.base + off, none⟩) k cap) (.sl hp (by simp only [lenX] at hle; omega) ht) hn
    have hk : n = k := by
      simp only [truncX, newsX] at hn
      cases hb : Nat.beq sz sz' with
      | false => simp [hb] at hn
      | true =>
        simp only [hb, cond_true] at hn
        cases hr : s.rd i off (k * sz) with
        | none => simp [hr] at hn
        | some c => simp only [hr, Option.map_some, Option.some.injEq, Prod.mk.injEq] at hn; exact hn.2.symm
    subst hk
    exact ⟨news', by simp [Builtin.lenOf, lenX], by simpa [Builtin.firstCells] using hf, hvn, h1, rfl, hl⟩
  | @esl i off sz' a =>
    have : k = 0 := by simpa [lenX] using hle
    subst this
    obtain ⟨news', _, hf, hvn, h1, hl⟩ := news_sound (P := P) h (y' := .slice (some a) 0 0) .esl hn
    have hk : n = 0 := by
      simp only [truncX, newsX] at hn
      cases hb : Nat.beq sz sz' with
      | false => simp [hb] at hn
      | true =>
        simp only [hb, cond_true] at hn
        generalize s.rd i off (0 * sz) = r at hn
        cases r with
        | none => simp at hn
        | some c => simp only [Option.map_some, Option.some.injEq, Prod.mk.injEq] at hn; exact hn.2.symm
    subst hk
    exact ⟨news', by simp [Builtin.lenOf, lenX], by simpa [Builtin.firstCells] using hf, hvn, h1, rfl, hl⟩
  | _ => simp [truncX, newsX, undef] at hn

theorem slice_of {x x' : Value} (hs : isSl x = true) (h : VR m x x') : ∃ b l c, x' = .slice b l c ∧ l = lenX x := by
  cases h with
  | nilsl => exact ⟨_, _, _, rfl, rfl⟩
  | sl => exact ⟨_, _, _, rfl, rfl⟩
  | esl => exact ⟨_, _, _, rfl, rfl⟩
  | _ => cases hs

theorem under_info {e : TypeId} (h : Nat.blt 0 (sizeT P e) = true) : ∃ i, P.info? e = some i ∧ i.size = sizeT P e := by
  unfold sizeT at h ⊢
  cases hi : P.info? e with
  | none => simp [hi] at h
  | some i => exact ⟨i, rfl, rfl⟩

theorem copy_sound (h : WR pr m s w) {t u e ty : TypeId} (he : elemT P t = some e) (hs : Nat.blt 0 (sizeT P e) = true) {x x' y y' : Value} (hx : VR m x x') (hy : VR m y y') {news : List Value} {n : Nat}
    (hn : newsX s (sizeT P e) (truncX (min (lenX y) (lenX x)) y) = some (news, n)) (hsl : isSl x = true) {K : Value → St → Prop} (hk : putX s x news (K (.int .i64 n))) : EffV P pr m w K (Builtin.copy_ #[t, u] ty #[x', y']) := by
  obtain ⟨news', hl, hf, hvn, h1, hnk, hlen⟩ := first_sound (P := P) h hy (Nat.min_le_left _ _) hn
  subst hnk
  have h0 : lenX x = 0 → news = [] := fun h0 => List.eq_nil_of_length_eq_zero (by rw [hlen, h0]; simp)
  obtain ⟨b, l, c, rfl, hlx⟩ := slice_of hsl hx
  obtain ⟨i, hi, his⟩ := under_info hs
  obtain ⟨s', w', hk', hwr, hsz, hfar, hrun⟩ := put_sound (P := P) h hx hvn h1 h0 hk rfl
  refine ⟨_, s', m, _, w', hk', .int _ _, hwr, Ext.refl m _, by omega, hfar, ?_⟩
  have hsize : (sizeOf e).run P w = .ok i.size w := by simp [sizeOf, typeInfo, hi]
  subst hlx
  rw [← his] at hf
  have hf : (Builtin.firstCells i.size ((lenX y).min (lenX x)) y').run P w = .ok news' w := hf
  cases b with
  | none =>
    cases hrun
    simp [Builtin.copy_, run_underlying (elemT_under he), hl, hsize, hf, goInt]
  | some a =>
    simp only at hrun
    simp [Builtin.copy_, run_underlying (elemT_under he), hl, hsize, hf, goInt, hrun]

theorem clear_sound (h : WR pr m s w) {t e ty : TypeId} (he : elemT P t = some e) (hs : Nat.blt 0 (sizeT P e) = true) {z : Value} (hz : zeroT P e = some z) (hfl : flatB 6 z = true) (hnt : noTup z = true) (hzs : z.cells.size = sizeT P e) {x x' : Value} (hx : VR m x x') (hsl : isSl x = true)
    {K : Value → St → Prop} (hk : putX s x ((List.replicate (lenX x) z.cells.toList).flatten) (K (.tuple #[]))) : EffV P pr m w K (Builtin.clear_ #[t] ty #[x']) := by
  have hfz : VR m z z := .flat (Flat.of 6 z hfl)
  have hv : VRs m ((List.replicate (lenX x) z.cells.toList).flatten) ((List.replicate (lenX x) z.cells.toList).flatten) := by
    refine VRs.flat fun u hu => ?_
    obtain ⟨l, hl, hul⟩ := List.mem_flatten.1 hu
    obtain rfl := List.eq_of_mem_replicate hl
    obtain ⟨i, hi, rfl⟩ := List.mem_iff_getElem.1 hul
    obtain ⟨v', hv', hr⟩ := hfz.cells.get i _ (List.getElem?_eq_getElem hi)
    rw [List.getElem?_eq_getElem hi] at hv'
    cases hv'
    exact hr
  have h1 : ∀ u ∈ (List.replicate (lenX x) z.cells.toList).flatten, u.oneCell' = true := fun u hu => by
    obtain ⟨l, hl, hul⟩ := List.mem_flatten.1 hu
    obtain rfl := List.eq_of_mem_replicate hl
    exact hfz.ones hnt u hul
  have h0 : lenX x = 0 → (List.replicate (lenX x) z.cells.toList).flatten = [] := fun h0 => by rw [h0]; rfl
  obtain ⟨b, l, c, rfl, hlx⟩ := slice_of hsl hx
  obtain ⟨i, hi, his⟩ := under_info hs
  obtain ⟨s', w', hk', hwr, hsz, hfar, hrun⟩ := put_sound (P := P) h hx hv h1 h0 hk rfl
  refine ⟨_, s', m, .tuple #[], w', hk', .tuple .nil, hwr, Ext.refl m _, by omega, hfar, ?_⟩
  have hzr : (zeroValue e).run P w = .ok z w := by
    unfold zeroT at hz
    simp only [hi] at hz
    simp [zeroValue, typeInfo, hi, hz]
  by_cases hl0 : l = 0
  · rw [← hlx, hl0] at hrun
    have hw : w' = w := by
      cases b with
      | none => exact (Result.ok.inj hrun).2.symm
      | some a => exact (Result.ok.inj hrun).2.symm
    subst hl0
    cases b <;> simp [Builtin.clear_, run_underlying (elemT_under he), hw]
  · cases b with
    | none =>
      simp only at hrun
      have hw := (Result.ok.inj hrun).2
      simp [Builtin.clear_, run_underlying (elemT_under he), hw]
    | some a =>
      simp only at hrun
      have hzc : (Builtin.zeroCells z.cells l).toList = (List.replicate (lenX x) z.cells.toList).flatten := by
        rw [← hlx]
        exact zeros_eq z.cells (by have := blt_pos hs; omega) l
      cases l with
      | zero => exact absurd rfl hl0
      | succ l =>
        simp [Builtin.clear_, run_underlying (elemT_under he), hzr, hzc, hrun]

theorem run_zeroT {e : TypeId} {z : Value} (hz : zeroT P e = some z) (w : World) : (zeroValue e).run P w = .ok z w := by
  unfold zeroT at hz
  cases hi : P.info? e with
  | none => simp [hi] at hz
  | some i =>
    simp only [hi] at hz
    simp [zeroValue, typeInfo, hi, hz]

theorem rep_vr {z : Value} (hfz : VR m z z) (n : Nat) : VRs m ((List.replicate n z.cells.toList).flatten) ((List.replicate n z.cells.toList).flatten) := by
  refine VRs.flat fun u hu => ?_
  obtain ⟨l, hl, hul⟩ := List.mem_flatten.1 hu
  obtain rfl := List.eq_of_mem_replicate hl
  obtain ⟨i, hi, rfl⟩ := List.mem_iff_getElem.1 hul
  obtain ⟨v', hv', hr⟩ := hfz.cells.get i _ (List.getElem?_eq_getElem hi)
  rw [List.getElem?_eq_getElem hi] at hv'
  cases hv'
  exact hr
theorem rep_one {z : Value} (hfz : VR m z z) (hnt : noTup z = true) (n : Nat) : ∀ u ∈ (List.replicate n z.cells.toList).flatten, u.oneCell' = true := fun u hu => by
  obtain ⟨l, hl, hul⟩ := List.mem_flatten.1 hu
  obtain rfl := List.eq_of_mem_replicate hl
  exact hfz.ones hnt u hul

theorem wrap_id {n : Int} (h0 : 0 ≤ n) (h : n ≤ 9223372036854775807) : IntKind.i64.wrap n = n := by
  simp only [IntKind.wrap, IntKind.bits, IntKind.signed]
  simp
  omega

theorem make_sound (h : WR pr m s w) {t e : TypeId} (he : elemT P t = some e) (hs : Nat.blt 0 (sizeT P e) = true) (hb : Nat.blt 0 (bytesT P e) = true) {z : Value} (hz : zeroT P e = some z) (hfl : flatB 6 z = true) (hnt : noTup z = true) (hzs : z.cells.size = sizeT P e)
    {k k' : IntKind} {l c : Int} (h0 : 0 ≤ l) (h1 : l ≤ c) (h2 : c * bytesT P e ≤ 70368744177664) {K : Value → St → Prop}
    (hk : K (.slice (some ⟨s.next, 0, none⟩) l.toNat (sizeT P e)) (s.new (.arr ((List.replicate l.toNat z.cells.toList).flatten) s.next true false))) :
    EffV P pr m w K (Instr.makeSlice t (.int k l) (.int k' c)) := by
  have hfz : VR m z z := .flat (Flat.of 6 z hfl)
  obtain ⟨i, hi, his⟩ := under_info hs
  have hib : i.bytes = bytesT P e := by simp [bytesT, hi]
  have hbp : (1 : Int) ≤ bytesT P e := by have := blt_pos hb; omega
  have hcb : c ≤ c * bytesT P e := by
    have : 0 ≤ c := by omega
    calc c = c * 1 := by omega
      _ ≤ c * bytesT P e := Int.mul_le_mul_of_nonneg_left hbp this
  have hlb : l * bytesT P e ≤ c * bytesT P e := Int.mul_le_mul_of_nonneg_right h1 (by omega)
  have hwl : IntKind.i64.wrap l = l := wrap_id h0 (by omega)
  have hwc : IntKind.i64.wrap c = c := wrap_id (by omega) (by omega)
  have hzeros : ((Array.range (c.toNat * sizeT P e)).map (z.cells[· % z.cells.size]!)).toList = (List.replicate c.toNat z.cells.toList).flatten := by
    rw [← hzs]
    exact zeros_eq z.cells (by have := blt_pos hs; omega) c.toNat
  have hpre : ((List.replicate c.toNat z.cells.toList).flatten).take (l.toNat * sizeT P e) = (List.replicate l.toNat z.cells.toList).flatten := by
    obtain ⟨d, hd⟩ : ∃ d, c.toNat = l.toNat + d := ⟨c.toNat - l.toNat, by omega⟩
    rw [hd, ← List.replicate_append_replicate, List.flatten_append, List.take_append_of_le_length (by rw [flatten_rep, Array.length_toList, hzs]; exact Nat.le_refl _), List.take_of_length_le (by rw [flatten_rep, Array.length_toList, hzs]; exact Nat.le_refl _)]
  have hlen : ((List.replicate l.toNat z.cells.toList).flatten).length = l.toNat * sizeT P e := by rw [flatten_rep, Array.length_toList, hzs]
  have hw := h.newArr (c := (List.replicate l.toNat z.cells.toList).flatten) ((Array.range (c.toNat * sizeT P e)).map (z.cells[· % z.cells.size]!)) e s.next false
    (by rw [hlen]; simp; exact Nat.mul_le_mul_right _ (by omega)) (by rw [hlen, hzeros, hpre]; exact rep_vr hfz _) (rep_one hfz hnt _) (Nat.lt_succ_self _)
  refine ⟨_, _, _, .slice (some ⟨w.heap.size, 0, none⟩) l.toNat c.toNat, _, hk, .sl (p := ⟨w.heap.size, 0, _⟩) (Mu.set_self ..) (by omega) (by simp), hw, (Ext.refl m _).set (h.nx _ (Nat.le_refl _)).1 _ (.inl (Nat.le_refl _)), by simp, fun k hk _ => by rw [heap_alloc, if_neg (by omega)], ?_⟩
  have g1 : ¬ (c < 0) := by omega
  have g2 : ¬ ((2 : Int) ^ 48 < i.bytes * c) := by rw [hib, Int.mul_comm]; omega
  have g3 : ¬ (l < 0) := by omega
  have g4 : ¬ (l > c) := by omega
  have g2' : ¬ (281474976710656 < (i.bytes : Int) * c) := by rw [hib, Int.mul_comm]; omega
  have g4' : ¬ (c < l) := by omega
  have hsize : i.size = sizeT P e := his
  have hsp : ¬ (sizeT P e = 0) := by have := blt_pos hs; omega
  by_cases hn : c = 0
  · subst hn
    simp [Instr.makeSlice, run_underlying (elemT_under he), asInt, asIntOf, typeInfo, hi, hwl, hwc, g3, g4', sizeOf, newRow]
    congr 2
    apply Array.ext
    · simp
    · intro i h1 _
      simp at h1
  · have hn' : ¬ (c.toNat = 0) := by omega
    simp [Instr.makeSlice, run_underlying (elemT_under he), asInt, asIntOf, typeInfo, hi, hwl, hwc, g1, g2', g3, g4', sizeOf, hsize, newRow, run_zeroT hz]
    intro h0
    exact absurd h0 (Nat.mul_ne_zero hn' hsp)

/-! ### A slice of an array -/
theorem WR.rowTop (h : WR pr m s w) {i : Nat} {c : List Value} (hr : s.row i = some c) {p : Pl} (hp : m i = some p) : p.base + c.length ≤ p.top := by
  unfold St.row at hr
  split at hr
  · rename_i c' ho
    cases hr
    obtain ⟨q, hq, cur, e, _, h0, ht, hv, _⟩ := h.ob i _ ho rfl
    rw [hp] at hq; cases hq
    have := hv.len
    simp at this
    omega
  · rename_i c' f own kin ho
    split at hr
    · cases hr
      rename_i hown
      obtain ⟨q, hq, cur, e, fz, _, ht, hle, _⟩ := h.ob i _ ho hown
      rw [hp] at hq; cases hq
      omega
    · cases hr
  · cases hr

theorem arrT_under {t e : TypeId} {n : Nat} (h : arrT P t = some (n, e)) : P.underlying t = some (.array n e) := by
  unfold arrT at h
  split at h
  · cases h; assumption
  · cases h

theorem arr_slice_sound (h : WR pr m s w) {t e : TypeId} {n : Nat} (ha : arrT P t = some (n, e)) (hs : Nat.blt 0 (sizeT P e) = true) {ev ρ : Operand → Value} {x : Operand} {lo hi : Option Operand} (hx : VR m (ev x) (ρ x))
    (hlo : ∀ y, lo = some y → VR m (ev y) (ρ y)) (hhi : ∀ y, hi = some y → VR m (ev y) (ρ y)) {i off : Nat} (hev : ev x = .pointer (some ⟨i, off, none⟩)) {l r : Int} (hl : boundX ev 0 lo = some l) (hr : boundX ev n hi = some r)
    {c : List Value} (hrow : s.row i = some c) (hc : off + n * sizeT P e ≤ c.length) (h0 : 0 ≤ l) (h1 : l ≤ r) (h2 : r ≤ n) {K : Value → St → Prop} (hk : K (.slice (some ⟨i, off + l.toNat * sizeT P e, none⟩) (r.toNat - l.toNat) (sizeT P e)) s) :
    EffV P pr m w K (Instr.sliceAt t (ρ x) (lo.map ρ) (hi.map ρ) none) := by
  have hu := arrT_under ha
  rw [hev] at hx
  generalize hρ : ρ x = u at hx
  cases hx with
  | @ptr _ _ p hm =>
  obtain ⟨ii, hi', his⟩ := under_info hs
  have htop := h.rowTop hrow hm
  have hb := run_bounds (P := P) (ρ := ρ) w false n n h0 h1 h2 (Nat.le_refl _) (bound_sound hl hlo) (bound_sound hr hhi)
  have hsz : (sizeOf e).run P w = .ok (sizeT P e) w := elem_size w hs
  have hrun : (Instr.sliceAt t (.pointer (some ⟨p.b, p.base + off, none⟩)) (lo.map ρ) (hi.map ρ) none).run P w =
      .ok (.slice (some (if n = l.toNat then ⟨p.b, p.base + off, none⟩ else (⟨p.b, p.base + off, none⟩ : Addr).add (l.toNat * sizeT P e))) (r.toNat - l.toNat) (n - l.toNat)) w := by
    simp only [Instr.sliceAt, Sem.run_bind, run_underlying hu, Result.andThen_ok, Instr.sureAddr, Sem.run_pure, hb, hsz]
  have hmul : n * sizeT P e = l.toNat * sizeT P e + (n - l.toNat) * sizeT P e := by rw [← Nat.add_mul]; congr 1; omega
  by_cases hnl : n = l.toNat
  · rw [if_pos hnl] at hrun
    have e1 : r.toNat - l.toNat = 0 := by omega
    have e2 : n - l.toNat = 0 := by omega
    rw [e1, e2] at hrun
    rw [e1] at hk
    exact .same h hk .esl hrun
  · rw [if_neg hnl, Addr.add_mid] at hrun
    refine .same h hk ?_ hrun
    have := VR.sl (m := m) (i := i) (off := off + l.toNat * sizeT P e) (len := r.toNat - l.toNat) (cap := n - l.toNat) (sz := sizeT P e) hm (by omega) (by omega)
    rwa [← Nat.add_assoc] at this

/-! ### Bytes as a string -/
theorem bytes_sound : ∀ (c : List Value) (b : List UInt8), c.mapM byteX = some b → ∀ (acc : ByteArray) (w : World),
    (forIn (m := Sem) c acc fun x s => (match x with | .int .u8 n => pure (ForInStep.yield (s.push (UInt8.ofNat n.toNat))) | _ => (do stuck "bytesToString: byte expected"; pure (ForInStep.yield s)) : Sem (ForInStep ByteArray))).run P w = .ok (ofL (acc.data.toList ++ b)) w
  | [], b, h, acc, w => by
    simp at h
    subst h
    simp [ofL]
  | x :: c, b, h, acc, w => by
    simp only [List.mapM_cons, Option.bind_eq_bind, Option.pure_def] at h
    cases hb : byteX x with
    | none => simp [hb] at h
    | some u =>
    cases hm : c.mapM byteX with
    | none => simp [hb, hm] at h
    | some bs =>
    simp only [hb, hm, Option.bind_some, Option.some.injEq] at h
    subst h
    unfold byteX at hb
    split at hb
    · cases hb
      simp only [List.forIn_cons, Sem.run_bind, Sem.run_pure, Result.andThen_ok]
      rw [bytes_sound c bs hm]
      simp [ofL, ByteArray.push]
    · cases hb

theorem byte_inv {x x' : Value} {u : UInt8} (h : byteX x = some u) (hv : VR m x x') : x' = x := by
  unfold byteX at h
  split at h
  · exact hv.int_inv
  · cases h
theorem bytes_inv : ∀ {c c' : List Value} {b : List UInt8}, c.mapM byteX = some b → VRs m c c' → c' = c
  | [], _, _, _, .nil => rfl
  | x :: c, _, b, h, .cons hv t => by
    simp only [List.mapM_cons, Option.bind_eq_bind, Option.pure_def] at h
    cases hb : byteX x with
    | none => simp [hb] at h
    | some u =>
    cases hm : c.mapM byteX with
    | none => simp [hb, hm] at h
    | some bs => rw [byte_inv hb hv, bytes_inv hm t]

theorem toString_sound (h : WR pr m s w) {x x' : Value} (hx : VR m x x') {c : List Value} {n : Nat} {b : List UInt8} (hn : newsX s 1 x = some (c, n)) (hb : c.mapM byteX = some b) (hsl : isSl x = true) {K : Value → St → Prop} (hk : K (.string (ofL b)) s) :
    EffV P pr m w K (Conv.bytesToString x') := by
  obtain ⟨cs, hl, hf, hv, _, hlen⟩ := news_sound (P := P) h hx hn
  obtain ⟨base, len, cap, rfl, _⟩ := slice_of hsl hx
  have hcs := bytes_inv hb hv
  have hln : len = n := by
    simp [Builtin.lenOf] at hl
    exact hl
  subst hln
  refine .same h hk (.string _) ?_
  cases base with
  | none =>
    simp [Builtin.firstCells] at hf
    subst hf
    have : c = [] := by simpa using hcs.symm
    subst this
    simp at hb
    subst hb
    simp [Conv.bytesToString, ofL]
    rfl
  | some a =>
    simp only [Builtin.firstCells, Nat.mul_one] at hf
    simp only [Conv.bytesToString, Sem.run_bind, hf, Result.andThen_ok]
    rw [← Array.forIn_toList, hcs]
    have := bytes_sound (P := P) c b hb .empty w
    refine Eq.trans (congrArg (fun r => Result.andThen r _) this) ?_
    simp [ofL]

/-! ### Maps -/
theorem isMapT_under {t k e : TypeId} (h : isMapT P t = some (k, e)) : P.underlying t = some (.map k e) := by
  unfold isMapT at h
  split at h
  · cases h; assumption
  · cases h

theorem run_checkKey {t : TypeId} {k : Value} (h : keyB P t k = true) (b : Bool) (w : World) (n : Nat) : (Instr.checkKey b (n + 1) t k).run P w = .ok () w := by
  unfold keyB at h
  split at h
  · rename_i hu; simp [Instr.checkKey, run_underlying hu]
  · rename_i hu; simp [Instr.checkKey, run_underlying hu]
  · cases h

theorem key_inv {t : TypeId} {k k' : Value} (h : keyB P t k = true) (hv : VR m k k') : k' = k := by
  unfold keyB at h
  split at h
  · exact hv.int_inv
  · exact hv.string_inv
  · cases h

theorem keyEq_eq {t : TypeId} {k l : Value} (h : keyB P t k = true) (h' : keyB P t l = true) (he : keyEq k l = true) : k = l := by
  unfold keyB at h h'
  split at h
  · rename_i hu
    simp only [hu] at h'
    split at h'
    · rename_i e
      cases e
      simp only [decide_eq_true_eq] at h h'
      simp [keyEq] at he
      subst h h' he
      rfl
    · rename_i e; cases e
    · cases h'
  · rename_i hu
    simp only [hu] at h'
    split at h'
    · rename_i e; cases e
    · simp [keyEq] at he
      congr 1
      exact ByteArray.ext he
    · cases h'
  · cases h

theorem same_key {t : TypeId} {d : TypeDesc} (hd : P.underlying t = some d) {k l : Value} (h : keyB P t k = true) (h' : keyB P t l = true) : Instr.sameNow d k l = some (keyEq k l) := by
  unfold keyB at h h'
  rw [hd] at h h'
  split at h
  · rename_i e
    cases e
    split at h'
    · rename_i e; cases e
      simp only [decide_eq_true_eq] at h h'
      subst h h'
      simp [Instr.sameNow, keyEq]
    · rename_i e; cases e
    · cases h'
  · rename_i e
    cases e
    split at h'
    · rename_i e; cases e
    · rename_i a _ b _ 
      simp only [Instr.sameNow, keyEq]
      rw [beq_toListBytes, ByteArray.toList_eq, ByteArray.toList_eq]
    · cases h'
  · cases h

theorem key_under {t : TypeId} {k : Value} (h : keyB P t k = true) : ∃ d, P.underlying t = some d := by
  unfold keyB at h
  split at h
  · rename_i hu; exact ⟨_, hu⟩
  · rename_i hu; exact ⟨_, hu⟩
  · cases h

theorem find_none {t : TypeId} {d : TypeDesc} (hd : P.underlying t = some d) {k : Value} (hk : keyB P t k = true) : ∀ {es : List En} {es' : List MapEntry} (i : Nat), ERs m es es' → es.all (fun e => keyB P t e.1) = true → findX k es = none → Instr.findNow d k es' i = some none
  | _, _, _, .nil, _, _ => rfl
  | _, _, i, .cons (k := k0) h tl, ha, hf => by
    simp only [List.all_cons, Bool.and_eq_true] at ha
    unfold findX at hf
    cases he : keyEq k k0 with
    | true => simp [he] at hf
    | false =>
      simp only [he, cond_false] at hf
      simp only [Instr.findNow, same_key hd hk ha.1, he]
      exact find_none hd hk (i + 1) tl ha.2 hf

theorem find_some {t : TypeId} {d : TypeDesc} (hd : P.underlying t = some d) {k : Value} (hk : keyB P t k = true) : ∀ {es : List En} {es' : List MapEntry} (i : Nat), ERs m es es' → es.all (fun e => keyB P t e.1) = true → ∀ {e : En}, findX k es = some e →
    ∃ j e', Instr.findNow d k es' i = some (some (i + j, e'.val)) ∧ es'[j]? = some e' ∧ e'.key = k ∧ VR m e.2.1 e'.val ∧
      (∀ v v', VR m v v' → ERs m (setX k v es) (es'.modify j fun e => { e with key := k, val := v' })) ∧ ERs m (cutX k es) (es'.eraseIdx j)
  | _, _, _, .nil, _, _, hf => by simp [findX] at hf
  | _, _, i, .cons (k := k0) (v := v0) (v' := v0') (b := b0) (l := l) (l' := l') h tl, ha, e, hf => by
    simp only [List.all_cons, Bool.and_eq_true] at ha
    unfold findX at hf
    cases he : keyEq k k0 with
    | true =>
      simp only [he, cond_true, Option.some.injEq] at hf
      subst hf
      have hkk := keyEq_eq hk ha.1 he
      subst hkk
      refine ⟨0, _, by simp only [Instr.findNow, same_key hd hk ha.1, he]; rfl, rfl, rfl, h, ?_, ?_⟩
      · intro v v' hv
        simp only [setX, he, cond_true, List.modify_zero_cons]
        exact .cons hv tl
      · simp only [cutX, he, cond_true, List.eraseIdx_cons_zero]
        exact tl
    | false =>
      simp only [he, cond_false] at hf
      obtain ⟨j, e', h1, h2, h3, h4, h5, h6⟩ := find_some hd hk (i + 1) tl ha.2 hf
      refine ⟨j + 1, e', ?_, by simpa using h2, h3, h4, ?_, ?_⟩
      · simp only [Instr.findNow, same_key hd hk ha.1, he]
        rw [h1]
        congr 3
        omega
      · intro v v' hv
        simp only [setX, he, cond_false, List.modify_succ_cons]
        exact .cons h (h5 v v' hv)
      · simp only [cutX, he, cond_false, List.eraseIdx_cons_succ]
        exact .cons h h6

/-- Neither a variable nor a row. -/
def solo : Ob → Bool
  | .map _ _ | .iter _ _ _ _ => true
  | _ => false

theorem setOb_get (w : World) (b : Nat) (x : Obj) (hb : b < w.heap.size) (k : Nat) : (w.heap.setIfInBounds b x)[k]? = if k = b then some x else w.heap[k]? := by
  by_cases hk : k = b
  · subst hk; simp [hb]
  · rw [if_neg hk, Array.getElem?_setIfInBounds_ne (fun e => hk e.symm)]

/-- A map, or a walk through one, is changed. -/
theorem WR.setOb (h : WR pr m s w) {i : Nat} {o o' : Ob} {p : Pl} (hi : s.heap i = some o) (hs : solo o = true) (hs' : solo o' = true) (hp : m i = some p) (x : Obj) (ho' : ∀ w' : World, w'.heap[p.b]? = some x → obR pr m w' o' p) :
    WR pr m (s.upd i o') { w with heap := w.heap.setIfInBounds p.b x } := by
  have hlt := h.lt i p hp
  have hget := setOb_get w p.b x hlt
  have hw : writes o = true := by cases o <;> first | rfl | cases hs
  have hw' : writes o' = true := by cases o' <;> first | rfl | cases hs'
  obtain ⟨p', hp', hob⟩ := h.ob i o hi (reads_of_writes hw)
  rw [hp] at hp'; cases hp'
  have hpr := hob.blk hw
  have old : ∀ j oj, (s.upd i o').heap j = some oj → j = i ∧ oj = o' ∨ j ≠ i ∧ s.heap j = some oj := fun j oj hj => by
    simp only [St.upd] at hj
    split at hj
    · left; exact ⟨‹_›, (by simpa using hj.symm)⟩
    · right; exact ⟨‹_›, hj⟩
  have rr : ∀ x, reads (s.upd i o') x = reads s x := fun x => by cases x <;> rfl
  have alone : ∀ j oj q, j ≠ i → s.heap j = some oj → reads s oj = true → m j = some q → q.b ≠ p.b := fun j oj q hj hoj hr hq hqb => by
    have := h.sep i o p j oj q hi hw hp hj hoj hr hq hqb
    cases o with
    | map | iter => simp [shr] at this
    | _ => cases hs
  exact {
    os := h.os
    tape := h.tape
    out := h.out
    prot := fun k ok hk => by
      rw [hget, if_neg (by rintro rfl; rw [hpr] at hk; cases hk)]
      exact h.prot k ok hk
    lt := fun j q hq => by simpa using h.lt j q hq
    nx := fun j hj => by
      have := h.nx j hj
      refine ⟨this.1, ?_⟩
      simp only [St.upd]
      rw [if_neg (by rintro rfl; rw [hi] at this; cases this.2)]
      exact this.2
    gl := h.gl
    nd := h.nd
    nf := fun j cj fj own kj hj => by
      rcases old j _ hj with ⟨rfl, e⟩ | ⟨_, e⟩
      · rw [← e] at hs'; cases hs'
      · exact h.nf j cj fj own kj e
    ob := fun j oj hj hr => by
      rw [rr] at hr
      rcases old j _ hj with ⟨rfl, rfl⟩ | ⟨hji, e⟩
      · exact ⟨p, hp, ho' _ (by rw [hget, if_pos rfl])⟩
      · obtain ⟨q, hq, hobj⟩ := h.ob j oj e hr
        exact ⟨q, hq, hobj.heap (by rw [hget, if_neg (alone j oj q hji e hr hq)])⟩
    sep := fun k ok pk j oj q hk hwk hpk hjk hj hr hq hqb => by
      rw [rr] at hr
      rcases old k _ hk with ⟨rfl, rfl⟩ | ⟨hki, ek⟩
      · rw [hp] at hpk; cases hpk
        rcases old j _ hj with ⟨e0, _⟩ | ⟨hji, e'⟩
        · exact absurd e0 hjk
        · exact absurd hqb (alone j oj q hji e' hr hq)
      · rcases old j _ hj with ⟨rfl, rfl⟩ | ⟨hji, e'⟩
        · rw [hp] at hq; cases hq
          exact absurd hqb.symm (alone k ok pk hki ek (reads_of_writes hwk) hpk)
        · exact h.sep k ok pk j oj q ek hwk hpk hjk e' hr hq hqb }

theorem run_getOb {b : Nat} {x : Obj} (hx : w.heap[b]? = some x) (hn : ∀ c e f, x ≠ .cells c e f) : (getObj b).run P w = .ok x w := by
  cases x <;> first | exact absurd rfl (hn _ _ _) | simp only [getObj, Sem.run, hx]
theorem run_setOb {b : Nat} {x : Obj} (hx : w.heap[b]? = some x) (hn : ∀ c e f, x ≠ .cells c e f) (y : Obj) : (setObj b y).run P w = .ok () { w with heap := w.heap.setIfInBounds b y } := by
  cases x <;> first | exact absurd rfl (hn _ _ _) | simp only [setObj, Sem.run, hx]

theorem map_at (h : WR pr m s w) {i : Nat} {es : List En} {c : Nat} (hi : s.heap i = some (.map es c)) : ∃ p es', m i = some p ∧ w.heap[p.b]? = some (.map es' c) ∧ ERs m es es'.toList ∧ p.base = 0 ∧ pr.blk p.b = none ∧
    (getObj p.b).run P w = .ok (.map es' c) w ∧ ∀ y, (setObj p.b y).run P w = .ok () { w with heap := w.heap.setIfInBounds p.b y } := by
  obtain ⟨p, hp, es', h1, h2, h3, h4⟩ := h.ob i _ hi rfl
  exact ⟨p, es', hp, h1, h2, h3, h4, run_getOb h1 (fun _ _ _ h => by cases h), run_setOb h1 (fun _ _ _ h => by cases h)⟩

theorem EffV.upd (h : WR pr m s w) {i : Nat} {o o' : Ob} {p : Pl} (hi : s.heap i = some o) (hs : solo o = true) (hs' : solo o' = true) (hp : m i = some p) (x : Obj) (ho' : ∀ w' : World, w'.heap[p.b]? = some x → obR pr m w' o' p)
    {K : Value → St → Prop} {y : Sem Value} {v v' : Value} (hk : K v (s.upd i o')) (hv : VR m v v') (hr : y.run P w = .ok v' { w with heap := w.heap.setIfInBounds p.b x }) : EffV P pr m w K y :=
  ⟨v, _, m, v', _, hk, hv, h.setOb hi hs hs' hp x ho', Ext.refl m _, by simp, fun k _ hk => by rw [setOb_get w p.b x (h.lt i p hp), if_neg (fun e => hk i p hp e.symm)], hr⟩

theorem EffV.fresh (h : WR pr m s w) {o : Ob} {x : Obj} (hs : solo o = true) (ho : ∀ w' : World, w'.heap[w.heap.size]? = some x → obR pr m w' o ⟨w.heap.size, 0, 0⟩) {K : Value → St → Prop} {y : Sem Value} {v v' : Value}
    (hk : K v (s.new o)) (hv : VR (m.set s.next ⟨w.heap.size, 0, 0⟩) v v') (hr : y.run P w = .ok v' { w with heap := w.heap.push x }) : EffV P pr m w K y := by
  have hsub : Sub m (m.set s.next ⟨w.heap.size, 0, 0⟩) := Sub.set (h.nx _ (Nat.le_refl _)).1 _
  refine ⟨v, _, _, v', _, hk, hv, h.new o x ⟨w.heap.size, 0, 0⟩ rfl ((ho _ (by rw [heap_alloc, if_pos rfl])).mono hsub) (fun _ _ _ _ e => by subst e; cases hs), (Ext.refl m _).set (h.nx _ (Nat.le_refl _)).1 _ (.inl (Nat.le_refl _)), by simp, fun k hk _ => by rw [heap_alloc, if_neg (by omega)], hr⟩

theorem fresh_pr (h : WR pr m s w) : pr.blk w.heap.size = none := by
  cases hpr : pr.blk w.heap.size with
  | none => rfl
  | some o =>
    have := h.prot _ o hpr
    simp at this

theorem mkmap_sound (h : WR pr m s w) {t : TypeId} {K : Value → St → Prop} (hk : K (.map (some s.next)) (s.new (.map [] 0))) : EffV P pr m w K (Instr.makeMap t none) :=
  .fresh h (o := .map [] 0) (x := .map #[] 0) rfl (fun _ hw => ⟨#[], hw, .nil, rfl, fresh_pr h⟩) hk (v' := .map (some w.heap.size)) (.map (p := ⟨w.heap.size, 0, 0⟩) (Mu.set_self ..)) (by simp [Instr.makeMap])

theorem range_sound (h : WR pr m s w) {t k e : TypeId} (ht : isMapT P t = some (k, e)) {x x' : Value} (hx : VR m x x') {K : Value → St → Prop}
    (hk : rangeK s x K) : EffV P pr m w K (Instr.range t x') := by
  have hu := isMapT_under ht
  unfold rangeK at hk
  split at hk
  · cases hx
    refine .fresh h (o := .iter none 0 [] 0) (x := .mapIter none 0 #[] 0) rfl (fun _ hw => ⟨none, hw, rfl, rfl, fresh_pr h⟩) hk (v' := .pointer (some ⟨w.heap.size, 0, none⟩)) (.ptr (p := ⟨w.heap.size, 0, 0⟩) (Mu.set_self ..)) ?_
    simp [Instr.range, run_underlying hu]
  · rename_i i
    obtain ⟨es, c, hi, hk⟩ := hk
    obtain ⟨p, es', hp, _, _, _, _, hg, _⟩ := map_at (P := P) h hi
    cases hx with
    | @map _ q hq =>
    rw [hp] at hq; cases hq
    refine .fresh h (o := .iter (some i) c [] c) (x := .mapIter (some p.b) c #[] c) rfl (fun _ hw => ⟨some p.b, hw, ⟨p, hp, rfl⟩, rfl, fresh_pr h⟩) hk (v' := .pointer (some ⟨w.heap.size, 0, none⟩)) (.ptr (p := ⟨w.heap.size, 0, 0⟩) (Mu.set_self ..)) ?_
    simp [Instr.range, run_underlying hu, hg]
  · exact hk.elim

theorem keysB_spec {t : TypeId} {k : Value} {es : List En} (h : keysB P t k es = true) : keyB P t k = true ∧ es.all (fun e => keyB P t e.1) = true := by
  simpa only [keysB, Bool.and_eq_true] using h

theorem run_findKey {t : TypeId} {d : TypeDesc} (hd : P.underlying t = some d) {k : Value} {es : List MapEntry} {r : Option (Nat × Value)} (hf : Instr.findNow d k es 0 = some r) : (Instr.findKey t k es).run P w = .ok r w := by
  simp [Instr.findKey, run_underlying hd, hf]

/-- A map's entries, in the machine. -/
theorem ents_at (h : WR pr m s w) {x x' : Value} (hx : VR m x x') {es : List En} (he : s.ents x = some es) :
    ∃ es' : Array MapEntry, ERs m es es'.toList ∧ ((x' = .map none ∧ es' = #[]) ∨ ∃ r c, x' = .map (some r) ∧ (getObj r).run P w = .ok (.map es' c) w) := by
  unfold St.ents at he
  split at he
  · cases he
    cases hx
    exact ⟨#[], .nil, .inl ⟨rfl, rfl⟩⟩
  · cases hm : s.mapAt x with
    | none => simp [hm] at he
    | some y =>
      simp only [hm, Option.map_some, Option.some.injEq] at he
      subst he
      unfold St.mapAt at hm
      split at hm
      · rename_i i
        split at hm
        · rename_i es c hi
          cases hm
          obtain ⟨p, es', hp, _, hes, _, _, hg, _⟩ := map_at (P := P) h hi
          cases hx with
          | @map _ q hq =>
          rw [hp] at hq; cases hq
          exact ⟨es', hes, .inr ⟨p.b, c, rfl, hg⟩⟩
        · cases hm
      · cases hm

theorem lookup_sound (h : WR pr m s w) {t kt et : TypeId} (ht : isMapT P t = some (kt, et)) (hzf : ∀ z, zeroT P et = some z → flatB 6 z = true) {x x' k k' : Value} (hx : VR m x x') (hk' : VR m k k') {ok : Bool} {es : List En} (he : s.ents x = some es) (hkeys : keysB P kt k es = true) {K : Value → St → Prop}
    (hk : match findX k es with
      | some e => K (cond ok (.tuple #[e.2.1, .bool true]) e.2.1) s
      | none => match zeroT P et with | some z => K (cond ok (.tuple #[z, .bool false]) z) s | none => False) : EffV P pr m w K (Instr.lookup t x' k' ok) := by
  have hu := isMapT_under ht
  obtain ⟨hkb, hall⟩ := keysB_spec hkeys
  obtain rfl := key_inv hkb hk'
  obtain ⟨d, hd⟩ := key_under hkb
  obtain ⟨es', hes, hx'⟩ := ents_at (P := P) h hx he
  have hck := fun b => run_checkKey (P := P) hkb b w 9999
  cases hf : findX k' es with
  | some e =>
    simp only [hf] at hk
    obtain ⟨j, e', h1, _, _, hve, _⟩ := find_some hd hkb 0 hes hall hf
    have hfk := run_findKey (P := P) (w := w) hd h1
    refine .same h hk (v' := cond ok (.tuple #[e'.val, .bool true]) e'.val) (by cases ok; exact hve; exact .tuple (.cons hve (.cons (.bool _) .nil))) ?_
    rcases hx' with ⟨rfl, rfl⟩ | ⟨r, c, rfl, hg⟩
    · simp at h1
      cases hes
      simp [findX] at hf
    · simp only [Instr.lookup, Sem.run_bind, run_underlying hu, Result.andThen_ok, hg, Sem.run_pure, hck, hfk]
      cases ok <;> rfl
  | none =>
    simp only [hf] at hk
    have h1 := find_none hd hkb 0 hes hall hf
    have hfk := run_findKey (P := P) (w := w) hd h1
    cases hz : zeroT P et with
    | none => simp [hz] at hk
    | some z =>
    simp only [hz] at hk
    have hzv : VR m z z := .flat (Flat.of 6 z (hzf z hz))
    refine .same h hk (v' := cond ok (.tuple #[z, .bool false]) z) (by cases ok; exact hzv; exact .tuple (.cons hzv (.cons (.bool _) .nil))) ?_
    rcases hx' with ⟨rfl, rfl⟩ | ⟨r, c, rfl, hg⟩
    · simp only [Instr.lookup, Sem.run_bind, run_underlying hu, Result.andThen_ok, Sem.run_pure, hck, hfk, run_zeroT hz]
      cases ok <;> rfl
    · simp only [Instr.lookup, Sem.run_bind, run_underlying hu, Result.andThen_ok, hg, Sem.run_pure, hck, hfk, run_zeroT hz]
      cases ok <;> rfl

theorem mapAt_of {x : Value} {i c : Nat} {es : List En} (h : s.mapAt x = some (i, es, c)) : x = .map (some i) ∧ s.heap i = some (.map es c) := by
  unfold St.mapAt at h
  split at h
  · rename_i j
    split at h
    · rename_i es' c' hi
      cases h
      exact ⟨rfl, hi⟩
    · cases h
  · cases h

theorem ers_push {es : List En} {es' : List MapEntry} (h : ERs m es es') {k v v' : Value} (hv : VR m v v') (b : Nat) : ERs m (es ++ [(k, v, b)]) (es' ++ [{ key := k, val := v', born := b }]) := by
  induction h with
  | nil => exact .cons hv .nil
  | cons h _ ih => exact .cons h ih

theorem run_stays {t : TypeId} {k : Value} (h : keyB P t k = true) : (Instr.keyThatStays k k).run P w = .ok k w := by
  unfold keyB at h
  split at h
  · simp [Instr.keyThatStays, Instr.sameBits]
  · simp [Instr.keyThatStays, Instr.sameBits, beq_toListBytes]
  · cases h

theorem update_sound (h : WR pr m s w) {t kt et : TypeId} (ht : isMapT P t = some (kt, et)) {x x' k k' v v' : Value} (hx : VR m x x') (hk' : VR m k k') (hv : VR m v v') {i c : Nat} {es : List En} (hm : s.mapAt x = some (i, es, c)) (hkeys : keysB P kt k es = true) {K : Value → St → Prop}
    (hk : match findX k es with
      | some _ => K undef (s.upd i (.map (setX k v es) c))
      | none => K undef (s.upd i (.map (es ++ [(k, v, c)]) (c + 1)))) : ∃ x1, (Instr.mapUpdate t x' k' v').run P w = .ok () x1 ∧ ∃ s', K undef s' ∧ WR pr m s' x1 ∧ w.heap.size ≤ x1.heap.size ∧ (∀ k, k < w.heap.size → (∀ i p, m i = some p → p.b ≠ k) → x1.heap[k]? = w.heap[k]?) := by
  have hu := isMapT_under ht
  obtain ⟨rfl, hi⟩ := mapAt_of hm
  obtain ⟨p, es', hp, hheap, hes, hb0, hpr, hg, hset⟩ := map_at (P := P) h hi
  cases hx with
  | @map _ q hq =>
  rw [hp] at hq; cases hq
  obtain ⟨hkb, hall⟩ := keysB_spec hkeys
  obtain rfl := key_inv hkb hk'
  obtain ⟨d, hd⟩ := key_under hkb
  have hck := run_checkKey (P := P) hkb false w 9999
  have far : ∀ y, ∀ k, k < w.heap.size → (∀ i p, m i = some p → p.b ≠ k) → ({ w with heap := w.heap.setIfInBounds p.b y } : World).heap[k]? = w.heap[k]? := fun y k _ hk => by
    rw [setOb_get w p.b y (h.lt i p hp), if_neg (fun e => hk i p hp e.symm)]
  cases hf : findX k' es with
  | some e =>
    simp only [hf] at hk
    obtain ⟨j, e', h1, h2, h3, _, h5, _⟩ := find_some hd hkb 0 hes hall hf
    have hfk := run_findKey (P := P) (w := w) hd h1
    have hej : es'[j]? = some e' := by simpa using h2
    refine ⟨{ w with heap := w.heap.setIfInBounds p.b (.map (es'.modify j fun e => { e with key := k', val := v' }) c) }, ?_, _, hk, h.setOb hi rfl rfl hp _ (fun w' hw' => ⟨_, hw', by rw [Array.toList_modify]; exact h5 v v' hv, hb0, hpr⟩), by simp, far _⟩
    simp only [Instr.mapUpdate, Sem.run_bind, run_underlying hu, Result.andThen_ok, hg, hck, hfk, Nat.zero_add, hej, Option.map_some, Option.getD_some, h3, run_stays hkb, hset]
  | none =>
    simp only [hf] at hk
    have h1 := find_none hd hkb 0 hes hall hf
    have hfk := run_findKey (P := P) (w := w) hd h1
    refine ⟨{ w with heap := w.heap.setIfInBounds p.b (.map (es'.push { key := k', val := v', born := c }) (c + 1)) }, ?_, _, hk, h.setOb hi rfl rfl hp _ (fun w' hw' => ⟨_, hw', by rw [Array.toList_push]; exact ers_push hes hv c, hb0, hpr⟩), by simp, far _⟩
    simp only [Instr.mapUpdate, Sem.run_bind, run_underlying hu, Result.andThen_ok, hg, hck, hfk, hset]

theorem cut_none {k : Value} : ∀ {es : List En}, findX k es = none → cutX k es = es
  | [], _ => rfl
  | e :: r, h => by
    unfold findX at h
    cases he : keyEq k e.1 with
    | true => simp [he] at h
    | false =>
      simp only [he, cond_false] at h
      simp only [cutX, he, cond_false, cut_none h]

theorem delete_sound (h : WR pr m s w) {t u kt et ty : TypeId} (ht : isMapT P t = some (kt, et)) {x x' k k' : Value} (hx : VR m x x') (hk' : VR m k k') {i c : Nat} {es : List En} (hm : s.mapAt x = some (i, es, c)) (hkeys : keysB P kt k es = true) {K : Value → St → Prop}
    (hk : K (.tuple #[]) (s.upd i (.map (cutX k es) c))) : EffV P pr m w K (Builtin.delete_ #[t, u] ty #[x', k']) := by
  have hu := isMapT_under ht
  obtain ⟨rfl, hi⟩ := mapAt_of hm
  obtain ⟨p, es', hp, hheap, hes, hb0, hpr, hg, hset⟩ := map_at (P := P) h hi
  cases hx with
  | @map _ q hq =>
  rw [hp] at hq; cases hq
  obtain ⟨hkb, hall⟩ := keysB_spec hkeys
  obtain rfl := key_inv hkb hk'
  obtain ⟨d, hd⟩ := key_under hkb
  have hck := fun b => run_checkKey (P := P) hkb b w 9999
  cases hf : findX k' es with
  | some e =>
    obtain ⟨j, e', h1, h2, _, _, _, h6⟩ := find_some hd hkb 0 hes hall hf
    have hfk := run_findKey (P := P) (w := w) hd h1
    have hlt : j < es'.size := by
      have := (List.getElem?_eq_some_iff.1 h2).1
      simpa using this
    refine .upd h (o' := .map (cutX k' es) c) hi rfl rfl hp (.map (es'.eraseIdxIfInBounds j) c) (fun w' hw' => ⟨_, hw', by rw [Array.eraseIdxIfInBounds, dif_pos hlt, Array.toList_eraseIdx]; exact h6, hb0, hpr⟩) hk (.tuple .nil) ?_
    simp [Builtin.delete_, run_underlying hu, hg, hck, hfk, hset]
  | none =>
    have h1 := find_none hd hkb 0 hes hall hf
    have hfk := run_findKey (P := P) (w := w) hd h1
    rw [cut_none hf] at hk
    refine .upd h (o' := .map es c) hi rfl rfl hp (.map es' c) (fun w' hw' => ⟨_, hw', hes, hb0, hpr⟩) hk (.tuple .nil) ?_
    simp [Builtin.delete_, run_underlying hu, hg, hck, hfk, hset]

/-! ### A walk through a map -/
theorem ers_mem {es : List En} {es' : List MapEntry} (h : ERs m es es') : ∀ e' ∈ es', ∃ e ∈ es, e'.key = e.1 ∧ VR m e.2.1 e'.val ∧ e'.born = e.2.2 := by
  induction h with
  | nil => simp
  | cons h _ ih =>
    intro e' he'
    rcases List.mem_cons.1 he' with rfl | he'
    · exact ⟨_, List.mem_cons_self .., rfl, h, rfl⟩
    · obtain ⟨e, h1, h2⟩ := ih e' he'
      exact ⟨e, by simp [h1], h2⟩
theorem ers_born {es : List En} {es' : List MapEntry} (h : ERs m es es') : es'.map (·.born) = es.map (·.2.2) := by
  induction h with
  | nil => rfl
  | cons h _ ih => simp [ih]

theorem next_sound (h : WR pr m s w) {ty : TypeId} {x x' : Value} (hx : VR m x x') {j : Nat} (hxe : x = .pointer (some ⟨j, 0, none⟩)) {mp : Option Nat} {since last : Nat} {seen : List Nat} (hj : s.heap j = some (.iter mp since seen last)) {K : Value → St → Prop}
    (hk : nextK s j mp since seen last K) : EffV P pr m w K (Instr.next x' false ty) := by
  unfold nextK at hk
  subst hxe
  cases hx with
  | @ptr _ _ p hp =>
  obtain ⟨q, hq, y, hheap, hmap, hb0, hpr⟩ := h.ob j _ hj rfl
  rw [hp] at hq; cases hq
  have hg := run_getOb (P := P) hheap (fun _ _ _ h => by cases h)
  have hset := run_setOb (P := P) hheap (fun _ _ _ h => by cases h)
  rw [hb0]
  cases mp with
  | none =>
    have hy : y = none := hmap
    subst hy
    refine .same h hk (.tuple (.cons (.bool _) .nil)) ?_
    simp [Instr.next, hg]
  | some i =>
    obtain ⟨es, c, hi, hkf, hcond, hend, hstep⟩ := hk
    obtain ⟨q, hq, rfl⟩ := hmap
    obtain ⟨q', es', hq', _, hes, _, _, hgm, _⟩ := map_at (P := P) h hi
    rw [hq] at hq'; cases hq'
    have hborn := ers_born hes
    -- not every entry is new
    have hnot : ¬ ((!seen.toArray.isEmpty && !es'.isEmpty && es'.all (fun e => decide (e.born ≥ last))) = true) := by
      intro hh
      simp only [Bool.and_eq_true, Bool.not_eq_true', Array.all_eq_true_iff_forall_mem, decide_eq_true_eq] at hh
      obtain ⟨⟨h1, h2⟩, h3⟩ := hh
      rcases hcond with rfl | rfl | hall
      · simp at h1
      · have hnil : es'.toList = [] := by
          generalize es'.toList = l at hes
          cases hes
          rfl
        have : es' = #[] := by simpa using hnil
        subst this
        simp at h2
      · rw [Bool.eq_false_iff] at hall
        apply hall
        rw [List.all_eq_true]
        intro e he
        have : e.2.2 ∈ es'.toList.map (·.born) := by rw [hborn]; exact List.mem_map.2 ⟨e, he, rfl⟩
        obtain ⟨e', he', hbe⟩ := List.mem_map.1 this
        have := h3 e' (by simpa using he')
        rw [hbe] at this
        exact Nat.ble_eq_true_of_le this
    generalize hleft : es'.filter (fun e => !seen.toArray.contains e.born) = left
    generalize hcand : ((if (left.filter (fun e => decide (e.born < since))).isEmpty then #[none] else #[]) ++ (left.filter (fun e => decide (e.born < since)) ++ left.filter (fun e => decide (e.born ≥ since))).map some : Array (Option MapEntry)) = cands
    have hcs : 0 < cands.size := by
      rw [← hcand]
      by_cases he : (left.filter (fun e => decide (e.born < since))).isEmpty = true
      · simp [he]
        omega
      · simp only [he]
        have : 0 < (left.filter (fun e => decide (e.born < since))).size := by
          rw [Array.isEmpty_iff_size_eq_zero] at he
          omega
        simp
        omega
    obtain ⟨idx, w1, hch, hidx, hw1, hh1⟩ : ∃ idx w1, (choose (.mapNext cands.size)).run P w = .ok idx w1 ∧ idx < cands.size ∧ WR pr m s w1 ∧ w1.heap = w.heap := by
      rw [run_choose]
      split
      · exact ⟨0, w, rfl, hcs, h, rfl⟩
      · exact ⟨_, _, rfl, Nat.mod_lt _ hcs, h.drew _, rfl⟩
    have hrun : ∀ r, (match cands[idx]? with | some (some e) => (do setObj p.b (.mapIter (some q.b) since (seen.toArray.push e.born) c); pure (.tuple #[.bool true, e.key, e.val]) : Sem Value) | some none => pure (.tuple #[.bool false]) | none => stuck "Next: no such candidate").run P w1 = r →
        (Instr.next (.pointer (some ⟨p.b, 0 + 0, none⟩)) false ty).run P w = r := by
      intro r hr
      simp only [Instr.next, Sem.run_bind, Nat.add_zero, hg, Result.andThen_ok, hgm, hnot, hleft, hcand]
      simp only [Bool.false_eq_true, if_false]
      rw [Sem.run_bind, hch]
      exact hr
    have hcget : cands[idx]? = some cands[idx] := Array.getElem?_eq_getElem hidx
    have hmem : cands[idx] ∈ cands := Array.getElem_mem hidx
    generalize cands[idx] = cand at hcget hmem
    have hrun := hrun _ rfl
    rw [hcget] at hrun
    have hleftm : ∀ e ∈ left, e ∈ es' ∧ seen.contains e.born = false := fun e he => by
      rw [← hleft] at he
      simpa using he
    cases cand with
    | none =>
      have hold : left.filter (fun e => decide (e.born < since)) = #[] := by
        rw [← hcand, Array.mem_append] at hmem
        rcases hmem with hmem | hmem
        · split at hmem
          · rename_i he; simpa using he
          · simp at hmem
        · simp at hmem
      refine ⟨_, s, m, .tuple #[.bool false], w1, hend ?_, .tuple (.cons (.bool _) .nil), hw1, Ext.refl m _, by rw [hh1]; exact Nat.le_refl _, fun k _ _ => by rw [hh1], by rw [hrun]; rfl⟩
      rw [List.filter_eq_nil_iff]
      intro e he hc
      simp only [Bool.and_eq_true, Bool.not_eq_true'] at hc
      have : e.2.2 ∈ es'.toList.map (·.born) := by rw [hborn]; exact List.mem_map.2 ⟨e, he, rfl⟩
      obtain ⟨e', he', hbe⟩ := List.mem_map.1 this
      have hin : e' ∈ left.filter (fun e => decide (e.born < since)) := by
        rw [Array.mem_filter]
        refine ⟨?_, ?_⟩
        · rw [← hleft, Array.mem_filter]
          refine ⟨by simpa using he', ?_⟩
          rw [hbe]
          simpa using hc.1
        · rw [hbe]
          have := Nat.le_of_ble_eq_true hc.2
          simp
          omega
      rw [hold] at hin
      simp at hin
    | some e' =>
      have he' : e' ∈ left := by
        rw [← hcand, Array.mem_append] at hmem
        rcases hmem with hmem | hmem
        · split at hmem <;> simp at hmem
        · simp at hmem
          rcases hmem with hmem | hmem
          · exact hmem.1
          · exact hmem.1
      obtain ⟨hmem', hseen⟩ := hleftm e' he'
      obtain ⟨e, he, hkey, hval, hbe⟩ := ers_mem hes e' (by simpa using hmem')
      have hheap1 : w1.heap[p.b]? = some (.mapIter (some q.b) since seen.toArray last) := by rw [hh1]; exact hheap
      have hset1 := run_setOb (P := P) hheap1 (fun _ _ _ h => by cases h)
      rw [hbe] at hseen
      have hkv : VR m e.1 e'.key := by
        rw [hkey]
        rw [List.all_eq_true] at hkf
        have := hkf e he
        revert this
        cases e.1 <;> simp [plainKey]
        · exact .int _ _
        · exact .string _
      refine ⟨_, _, m, .tuple #[.bool true, e'.key, e'.val], { w1 with heap := w1.heap.setIfInBounds p.b (.mapIter (some q.b) since (seen.toArray.push e'.born) c) }, hstep e he hseen, .tuple (.cons (.bool _) (.cons hkv (.cons hval .nil))),
        hw1.setOb hj rfl rfl hp _ (fun w' hw' => ⟨some q.b, by rw [hw', hbe]; simp, ⟨q, hq, rfl⟩, hb0, hpr⟩), Ext.refl m _, by simp [hh1], fun k _ hk => ?_, ?_⟩
      · rw [setOb_get w1 p.b _ (hw1.lt j p hp), if_neg (fun e => hk j p hp e.symm), hh1]
      · rw [hrun]
        simp only [Sem.run_bind, hset1, Result.andThen_ok, Sem.run_pure]

theorem EffV.eff {K : Value → St → Prop} {x : Sem Value} (h : EffV P pr m w K x) {y : Sem Next} (hy : ∀ v' w', x.run P w = .ok v' w' → y.run P w = .ok (.value v') w') : EffOk P pr m w K y := by
  obtain ⟨v, s', m', v', w', h1, h2, h3, h4, h5, h6, h7⟩ := h
  exact ⟨v, s', m', v', w', h1, h2, h3, h4, h5, h6, .inl (hy _ _ h7)⟩

theorem okTriple {e : TypeId} (h : zOk P e = true) : ∃ z, zeroT P e = some z ∧ flatB 6 z = true ∧ noTup z = true ∧ z.cells.size = sizeT P e := by
  unfold zOk at h
  cases hz : zeroT P e with
  | none => simp [hz] at h
  | some z =>
    simp only [hz, Bool.and_eq_true] at h
    exact ⟨z, rfl, h.1.1, h.1.2, Nat.eq_of_beq_eq_true h.2⟩

theorem effX_sound (h : WR pr m s w) {o : Oper} {ev ρ : Operand → Value} (hx : ∀ x ∈ o.op.operands, VR m (ev x) (ρ x)) (hok : effOk P o.op = true) (hie : isEffOp P o.op = true) {K : Value → St → Prop} (hk : effX P o.op ev s K) :
    EffOk P pr m w K (execOp ρ o) := by
  obtain ⟨dst, op, type, pos, after, guard⟩ := o
  simp only at hx hok hk hie
  unfold effX at hk
  split at hk
  · rename_i t n parts
    exact build_slice_sound h (fun x hxm => hx x.2 (by
      simp only [Op.operands]
      have : x ∈ parts := by simpa using hxm
      simp
      exact ⟨x.1, this⟩)) hok hk
  · rename_i args tys
    split at hk
    · rename_i x y t u ha ht
      obtain rfl : args = #[x, y] := by apply Array.ext'; simpa using ha
      obtain rfl : tys = #[t, u] := by apply Array.ext'; simpa using ht
      cases he : elemT P t with
      | none => simp [he] at hk
      | some e =>
      simp only [he] at hk
      obtain ⟨news, n, hn, hroom, hk⟩ := hk
      simp only [effOk, he, Bool.and_eq_true] at hok
      obtain ⟨⟨⟨_, hb⟩, hzz⟩, hu⟩ := hok
      cases hz : zeroT P e with
      | none => simp [hz] at hzz
      | some zv =>
      simp only [hz] at hzz
      have hu' : (∃ e', P.underlying u = some (.slice e')) ∨ P.underlying u = some .string := by
        revert hu
        split <;> rename_i e2
        · exact fun _ => .inl ⟨_, e2⟩
        · exact fun _ => .inr e2
        · intro hu; cases hu
      obtain ⟨v, s', m', v', w', hkk, hv, hwr, hext, hsz, hfar, hrun⟩ := append_sound (P := P) (ty := type) h he (Nat.pos_of_ne_zero (blt_pos hb)) hz (Nat.eq_of_beq_eq_true hzz) hu'
        (hx x (by simp [Op.operands, Call.operands])) (hx y (by simp [Op.operands, Call.operands])) hn hroom hk
      refine ⟨v, s', m', v', w', hkk, hv, hwr, hext, hsz, hfar, .inl ?_⟩
      simp [execOp, resolve, invoke, builtin, hrun]
    · exact hk.elim
  · -- copy
    rename_i args tys
    split at hk
    · rename_i x y t u ha ht
      obtain rfl : args = #[x, y] := by apply Array.ext'; simpa using ha
      obtain rfl : tys = #[t, u] := by apply Array.ext'; simpa using ht
      cases he : elemT P t with
      | none => simp [he] at hk
      | some e =>
      simp only [he] at hk
      obtain ⟨news, n, hn, hsl, hk⟩ := hk
      simp only [effOk, he, Bool.and_eq_true] at hok
      exact (copy_sound (P := P) (u := u) (ty := type) h he hok.1 (hx x (by simp [Op.operands, Call.operands])) (hx y (by simp [Op.operands, Call.operands])) hn hsl hk).eff
        fun v' w' hr => by simp [execOp, resolve, invoke, builtin, hr]
    · exact hk.elim
  · -- clear
    rename_i args tys
    split at hk
    · rename_i x t ha ht
      obtain rfl : args = #[x] := by apply Array.ext'; simpa using ha
      obtain rfl : tys = #[t] := by apply Array.ext'; simpa using ht
      cases he : elemT P t with
      | none => simp [he] at hk
      | some e =>
      simp only [he] at hk
      simp only [effOk, he, Bool.and_eq_true] at hok
      obtain ⟨z, hz, h1, h2, h3⟩ := okTriple (P := P) hok.2
      simp only [hz] at hk
      exact (clear_sound (P := P) (ty := type) h he hok.1 hz h1 h2 h3 (hx x (by simp [Op.operands, Call.operands])) hk.1 hk.2).eff
        fun v' w' hr => by simp [execOp, resolve, invoke, builtin, hr]
    · exact hk.elim
  · -- delete
    rename_i args tys
    split at hk
    · rename_i x k t u ha ht
      obtain rfl : args = #[x, k] := by apply Array.ext'; simpa using ha
      obtain rfl : tys = #[t, u] := by apply Array.ext'; simpa using ht
      cases he : isMapT P t with
      | none => simp [he] at hk
      | some kt =>
      obtain ⟨kt, et⟩ := kt
      simp only [he] at hk
      obtain ⟨i, es, c, hm, hkeys, hk⟩ := hk
      exact (delete_sound (P := P) (u := u) (ty := type) h he (hx x (by simp [Op.operands, Call.operands])) (hx k (by simp [Op.operands, Call.operands])) hm hkeys hk).eff
        fun v' w' hr => by simp [execOp, resolve, invoke, builtin, hr]
    · exact hk.elim
  · -- makeSlice
    rename_i t x y
    cases he : elemT P t with
    | none => simp [he] at hk
    | some e =>
    simp only [he] at hk
    simp only [effOk, he, Bool.and_eq_true] at hok
    obtain ⟨z, hz, h1, h2, h3⟩ := okTriple (P := P) hok.2
    simp only [hz] at hk
    split at hk
    · rename_i k l k' c hl hc
      have hvl := hx x (by simp [Op.operands])
      have hvc := hx y (by simp [Op.operands])
      rw [hl] at hvl
      rw [hc] at hvc
      exact (make_sound (P := P) (k := k) (k' := k') h he hok.1.1 hok.1.2 hz h1 h2 h3 hk.1.1 hk.1.2.1 hk.1.2.2 hk.2).eff
        fun v' w' hr => by simp [execOp, hvl.int_inv, hvc.int_inv, hr]
    · exact hk.elim
  · -- slice
    rename_i t x lo hi
    cases he : arrT P t with
    | none => simp [he] at hk
    | some ne =>
    obtain ⟨n, e⟩ := ne
    simp only [he] at hk
    split at hk
    · rename_i i off hev
      split at hk
      · rename_i l r hl hr
        obtain ⟨⟨c, hrow, hc⟩, ⟨h0, h1, h2⟩, hk⟩ := hk
        simp only [effOk, he, Bool.and_eq_true] at hok
        exact (arr_slice_sound (P := P) h he hok.2.2 (hx x (by simp [Op.operands])) (fun y hy => hx y (by subst hy; simp [Op.operands])) (fun y hy => hx y (by subst hy; simp [Op.operands])) hev hl hr hrow hc h0 h1 h2 hk).eff
          fun v' w' hr => by simp [execOp, hr]
      · exact hk.elim
    · exact hk.elim
  · -- convert
    rename_i t u x
    obtain ⟨c, n, b, hn, hb, hsl, hk⟩ := hk
    simp only [isEffOp, Bool.and_eq_true, Option.isSome_iff_exists] at hie
    obtain ⟨⟨e, he⟩, hu⟩ := hie
    simp only [effOk, he] at hok
    have hv := hx x (by simp [Op.operands])
    obtain ⟨base, l, cp, hρ, _⟩ := slice_of hsl hv
    have huu : P.underlying u = some .string := by
      revert hu
      split
      · intro _; assumption
      · intro h; cases h
    have hee : P.underlying e = some (.int .u8) := by
      revert hok
      split
      · intro _; assumption
      · intro h; cases h
    refine (toString_sound (P := P) h hv hn hb hsl hk).eff fun v' w' hr => ?_
    have : (convert t u (ρ x)).run P w = .ok v' w' := by
      rw [hρ] at hr ⊢
      simp only [convert, Sem.run_bind, run_underlying (elemT_under he), run_underlying huu, Result.andThen_ok, run_underlying hee]
      exact hr
    simp only [execOp, Sem.run_bind, this, Result.andThen_ok, Sem.run_pure]
  · -- makeMap
    rename_i t
    exact (mkmap_sound (P := P) (t := t) h hk).eff fun v' w' hr => by simp only [execOp, Option.map_none, Sem.run_bind, hr, Result.andThen_ok, Sem.run_pure]
  · -- lookup
    rename_i t x k ok
    cases he : isMapT P t with
    | none => simp [he] at hk
    | some kt =>
    obtain ⟨kt, et⟩ := kt
    simp only [he] at hk
    obtain ⟨es, hes, hkeys, hk⟩ := hk
    simp only [effOk, he] at hok
    exact (lookup_sound (P := P) h he (fun z hz => by simpa [hz] using hok) (hx x (by simp [Op.operands])) (hx k (by simp [Op.operands])) hes hkeys hk).eff
      fun v' w' hr => by simp only [execOp, Sem.run_bind, hr, Result.andThen_ok, Sem.run_pure]
  · -- mapUpdate
    rename_i t x k v
    cases he : isMapT P t with
    | none => simp [he] at hk
    | some kt =>
    obtain ⟨kt, et⟩ := kt
    simp only [he] at hk
    obtain ⟨i, es, c, hm, hkeys, hk⟩ := hk
    obtain ⟨w', hrun, s', hkk, hwr, hsz, hfar⟩ := update_sound (P := P) h he (hx x (by simp [Op.operands])) (hx k (by simp [Op.operands])) (hx v (by simp [Op.operands])) hm hkeys hk
    exact ⟨undef, s', m, undef, w', hkk, .tuple .nil, hwr, Ext.refl m _, hsz, hfar, .inr ⟨rfl, by simp only [execOp, Sem.run_bind, hrun, Result.andThen_ok, Sem.run_pure]⟩⟩
  · -- range
    rename_i t x
    cases he : isMapT P t with
    | none => simp [he] at hk
    | some kt =>
    obtain ⟨kt, et⟩ := kt
    simp only [he] at hk
    exact (range_sound (P := P) h he (hx x (by simp [Op.operands])) hk).eff fun v' w' hr => by simp only [execOp, Sem.run_bind, hr, Result.andThen_ok, Sem.run_pure]
  · -- next
    rename_i x
    split at hk
    · rename_i j hev
      obtain ⟨mp, since, seen, last, hj, hk⟩ := hk
      exact (next_sound (P := P) (ty := type) h (hx x (by simp [Op.operands])) hev hj hk).eff fun v' w' hr => by simp only [execOp, Sem.run_bind, hr, Result.andThen_ok, Sem.run_pure]
    · exact hk.elim
  · exact hk.elim
end
end Go.Proofs.Ytbcjgolkcfdnfaa.Sim
