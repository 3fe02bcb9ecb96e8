import Derived.Test.YtbcjgolkcfdnfaaSimE
import Derived.Laws.Append
/- Sim: operations that do something with what others know, too. No condition. -/
namespace Go.Proofs.Ytbcjgolkcfdnfaa.Sim
open Go
section
variable {P : Program} {pr : Pr} {m m0 : Mu} {s : St} {w : World}

/-- What such an operation leaves: a value, more places, and all other blocks as they were. -/
def EffOk (P : Program) (pr : Pr) (m : Mu) (w : World) (K : Value → St → Prop) (x : Sem Next) : Prop :=
  ∃ v s' m' v' w', K v s' ∧ VR m' v v' ∧ WR pr m' s' w' ∧ Ext m w.heap.size m' ∧ w.heap.size ≤ w'.heap.size ∧
    (∀ k, k < w.heap.size → (∀ i p, m i = some p → p.b ≠ k) → w'.heap[k]? = w.heap[k]?) ∧ (x.run P w = .ok (.value v') w' ∨ v' = undef ∧ x.run P w = .ok .skip w')

def zOk (P : Program) (e : TypeId) : Bool := match zeroT P e with | some z => flatB 6 z && noTup z && Nat.beq z.cells.size (sizeT P e) | none => false

def effOk (P : Program) : Op → Bool
  | .buildSlice t n _ => match elemT P t with | some e => Nat.blt 0 (sizeT P e) && Nat.ble (n * sizeT P e) 16777216 && zOk P e | none => false
  | .call { callee := .builtin .append, args := _, argTypes } => match argTypes.toList with
    | [t, u] => (match elemT P t with | some e => Nat.blt 0 (sizeT P e) && Nat.blt 0 (bytesT P e) && (match zeroT P e with | some z => Nat.beq z.cells.size (sizeT P e) | none => false) | none => false) &&
      (match P.underlying u with | some (.slice _) | some .string => true | _ => false)
    | _ => false
  | .call { callee := .builtin .copy, args := _, argTypes } | .call { callee := .builtin .clear, args := _, argTypes } => match argTypes.toList with
    | t :: _ => (match elemT P t with | some e => Nat.blt 0 (sizeT P e) && zOk P e | none => false)
    | _ => false
  | .makeSlice t _ _ => (match elemT P t with | some e => Nat.blt 0 (sizeT P e) && Nat.blt 0 (bytesT P e) && zOk P e | none => false)
  | .slice t _ _ _ m => m.isNone && (match arrT P t with | some (_, e) => (P.info? e).isSome && Nat.blt 0 (sizeT P e) | none => true)
  | .convert t _ _ => (match elemT P t with | some e => (match P.underlying e with | some (.int .u8) => true | _ => false) | none => true)
  | .lookup t _ _ _ => (match isMapT P t with | some (_, e) => (match zeroT P e with | some z => flatB 6 z | none => false) | none => false)
  | _ => true

theorem WR.newArr (h : WR pr m s w) {c : List Value} (cur : Array Value) (e : TypeId) (f : Nat) (kin : Bool) (hle : c.length ≤ cur.size) (hv : VRs m c (cur.toList.take c.length)) (h1 : ∀ u ∈ c, u.oneCell' = true) (hf : f < s.next + 1) :
    WR pr (m.set s.next ⟨w.heap.size, 0, cur.size⟩) (s.new (.arr c f true kin)) { w with heap := w.heap.push (.cells cur e) } := by
  have hs : Sub m (m.set s.next ⟨w.heap.size, 0, cur.size⟩) := Sub.set (h.nx _ (Nat.le_refl _)).1 _
  refine h.new _ _ _ rfl ⟨cur, e, (0, 0), by rw [heap_alloc]; simp, rfl, by simpa using hle, by simpa using hv.mono hs, h1, fun _ => ⟨rfl, ?_⟩⟩ (fun _ _ _ _ h => by cases h; exact hf)
  cases hpr : pr.blk w.heap.size with
  | none => rfl
  | some o =>
    have := h.prot _ o hpr
    simp at this

theorem flatten_rep (z : List Value) : ∀ n : Nat, ((List.replicate n z).flatten).length = n * z.length
  | 0 => by simp
  | n + 1 => by simp [List.replicate_succ, flatten_rep z n, Nat.succ_mul, Nat.add_comm]

theorem rep_get (z : List Value) (hz : 0 < z.length) : ∀ (n k : Nat), k < n * z.length → ((List.replicate n z).flatten)[k]? = z[k % z.length]?
  | 0, k, h => by simp at h
  | n + 1, k, h => by
    rw [List.replicate_succ, List.flatten_cons]
    by_cases hk : k < z.length
    · rw [List.getElem?_append_left hk, Nat.mod_eq_of_lt hk]
    · rw [List.getElem?_append_right (by omega), rep_get z hz n (k - z.length) (by rw [Nat.succ_mul] at h; omega)]
      rw [Nat.mod_eq_sub_mod (by omega : z.length ≤ k)]

theorem zeros_eq (z : Array Value) (hz : 0 < z.size) (n : Nat) : ((Array.range (n * z.size)).map (z[· % z.size]!)).toList = (List.replicate n z.toList).flatten := by
  apply List.ext_getElem?
  intro k
  by_cases hk : k < n * z.size
  · have := rep_get z.toList (by simpa using hz) n k (by simpa using hk)
    rw [this]
    have hlt : k % z.size < z.size := Nat.mod_lt _ hz
    simp [hk, hlt]
  · rw [List.getElem?_eq_none (by simp; omega), List.getElem?_eq_none (by rw [flatten_rep]; simpa using hk)]

theorem build_slice_sound (h : WR pr m s w) {t : TypeId} {n : Nat} {parts : Array (Nat × Operand)} {ev ρ : Operand → Value} {type : TypeId} {dst : Option Tmp} {pos : String} {after : Array Edge} {guard : Option (Nat × Bool)}
    (hx : ∀ x ∈ parts.toList, VR m (ev x.2) (ρ x.2)) (hok : effOk P (.buildSlice t n parts) = true) {K : Value → St → Prop} (hk : effX P (.buildSlice t n parts) ev s K) :
    EffOk P pr m w K (execOp ρ { dst, op := .buildSlice t n parts, type, pos, after, guard }) := by
  simp only [effX] at hk
  cases he : elemT P t with
  | none => simp [he] at hk
  | some e =>
  simp only [he] at hk
  have hok' := hok
  simp only [effOk, he, Bool.and_eq_true] at hok'
  obtain ⟨⟨hs, hn⟩, hzz⟩ := hok'
  cases hz : zeroT P e with
  | none => simp [hz] at hk
  | some z =>
  simp only [hz] at hk
  simp only [zOk, hz, Bool.and_eq_true] at hzz
  obtain ⟨⟨hfl, hnt⟩, hzs⟩ := hzz
  have hzs := Nat.eq_of_beq_eq_true hzs
  have hfl : VR m z z := .flat (Flat.of 6 z hfl)
  have hpos : 0 < sizeT P e := Nat.pos_of_ne_zero (blt_pos hs)
  cases hf : fillX (fun i => some (i * sizeT P e, sizeT P e)) (parts.toList.map fun x => (x.1, ev x.2)) ((List.replicate n z.cells.toList).flatten) with
  | none => simp [hf] at hk
  | some c =>
  simp only [hf] at hk
  have hzl : ((Array.range (n * sizeT P e)).map (z.cells[· % z.cells.size]!)).toList = (List.replicate n z.cells.toList).flatten := by
    rw [← hzs]; exact zeros_eq z.cells (by omega) n
  have hcells : VRs m ((List.replicate n z.cells.toList).flatten) ((Array.range (n * sizeT P e)).map (z.cells[· % z.cells.size]!)).toList := by
    rw [hzl]
    refine VRs.flat fun u hu => ?_
    obtain ⟨l, hl, hul⟩ := List.mem_flatten.1 hu
    obtain rfl := List.eq_of_mem_replicate hl
    have hfc := hfl.cells
    obtain ⟨i, hi, rfl⟩ := List.mem_iff_getElem.1 hul
    obtain ⟨v', hv', hr⟩ := hfc.get i _ (List.getElem?_eq_getElem hi)
    rw [List.getElem?_eq_getElem hi] at hv'
    cases hv'
    exact hr
  have hones : ∀ u ∈ (List.replicate n z.cells.toList).flatten, u.oneCell' = true := fun u hu => by
    obtain ⟨l, hl, hul⟩ := List.mem_flatten.1 hu
    obtain rfl := List.eq_of_mem_replicate hl
    exact hfl.ones hnt u hul
  obtain ⟨r', hr', hvr, hone⟩ := fill_sound parts.toList _ c _ hx hcells hones hf
  have hlen := hvr.len
  simp only [Array.length_toList] at hlen
  have hrs : r'.size = n * sizeT P e := by
    have key : ∀ (parts : List (Nat × Value)) (c r : List Value), fillX (fun i => some (i * sizeT P e, sizeT P e)) parts c = some r → r.length = c.length := by
      intro parts
      induction parts with
      | nil => intro c r h; simp only [fillX, Option.some.injEq] at h; rw [h]
      | cons x parts ih =>
        intro c r h
        obtain ⟨i, v⟩ := x
        simp only [fillX] at h
        cases hb : (Nat.beq v.cells.size (sizeT P e) && noTup v) with
        | false => simp [hb] at h
        | true =>
          simp only [hb, cond_true] at h
          cases hsp : spl c (i * sizeT P e) v.cells.toList with
          | none => simp [hsp] at h
          | some c' =>
            simp only [hsp] at h
            obtain ⟨hle, rfl⟩ := of_spl hsp
            rw [ih _ _ h]
            simp at hle ⊢
            omega
    rw [← hlen, key _ _ _ hf, flatten_rep]
    simp [hzs]
  have hw := h.newArr (c := c) r' e s.next false (by omega) (by rw [hlen, ← Array.length_toList, List.take_length]; exact hvr) hone (Nat.lt_succ_self _)
  have hsz : (sizeOf e).run P w = .ok (sizeT P e) w := elem_size w hs
  refine ⟨_, _, _, .slice (some ⟨w.heap.size, 0, none⟩) n n, _, hk, .sl (p := ⟨w.heap.size, 0, r'.size⟩) (Mu.set_self ..) (Nat.le_refl _) (by simp; omega), hw, (Ext.refl m _).set (h.nx _ (Nat.le_refl _)).1 _ (.inl (Nat.le_refl _)), by simp, fun k hk _ => by rw [heap_alloc, if_neg (by omega)], .inl ?_⟩
  have hparts : (parts.map fun (i, x) => (i, ρ x)).toList = parts.toList.map fun x => (x.1, ρ x.2) := by rw [Array.toList_map]
  have hn := Nat.le_of_ble_eq_true hn
  have hm : ¬ (n * sizeT P e > 2 ^ 24) := by omega
  simp only [execOp, Instr.buildSlice, Sem.run_bind, run_underlying (elemT_under he), Result.andThen_ok, hsz, if_neg hm, Sem.run_ite, Sem.run_pure]
  by_cases hn0 : n * sizeT P e = 0
  · have hc0 : ((Array.range (n * sizeT P e)).map ((#[] : Array Value)[· % (#[] : Array Value).size]!)) = ((Array.range (n * sizeT P e)).map (z.cells[· % z.cells.size]!)) := by
      rw [hn0]; simp [Array.range]
    simp only [if_pos hn0, Sem.run_pure, Result.andThen_ok, hc0, hparts, hr', Sem.run_bind, newRow, run_newObj]
  · simp only [if_neg hn0, Sem.run_bind, zero_run w hz, Result.andThen_ok, Sem.run_pure, hparts, hr', newRow, run_newObj]

/-! ### append -/
theorem news_sound (h : WR pr m s w) {sz n : Nat} {y y' : Value} {news : List Value} (hv : VR m y y') (hn : newsX s sz y = some (news, n)) :
    ∃ news' : Array Value, (Builtin.lenOf y').run P w = .ok n w ∧ (Builtin.firstCells sz n y').run P w = .ok news' w ∧ VRs m news news'.toList ∧ (∀ u ∈ news, u.oneCell' = true) ∧ news.length = n * sz := by
  unfold newsX at hn
  split at hn
  · cases hn
    cases hv
    exact ⟨#[], by simp [Builtin.lenOf], by simp [Builtin.firstCells], .nil, by simp, by simp⟩
  · rename_i j off len sz'
    cases hb : Nat.beq sz sz' with
    | false => simp [hb] at hn
    | true =>
    obtain rfl := Nat.eq_of_beq_eq_true hb
    simp only [hb, cond_true] at hn
    cases hr : s.rd j off (len * sz) with
    | none => simp [hr] at hn
    | some c =>
      simp only [hr, Option.map_some, Option.some.injEq, Prod.mk.injEq] at hn
      obtain ⟨rfl, rfl⟩ := hn
      obtain ⟨p, vs', hp, hvs, h1, hl, hra, _⟩ := h.rd hr
      cases hv with
      | @sl _ _ _ cap _ q hq hlc ht =>
        rw [hp] at hq; cases hq
        refine ⟨vs'.toArray, by simp [Builtin.lenOf], ?_, by simpa using hvs, h1, hl⟩
        have := run_loadCells_list (P := P) w ⟨p.b, p.base + off, none⟩ vs' (fun j v hj => by rw [Addr.add_mid]; exact hra j v hj)
        have hvl : vs'.length = len * sz := by rw [← hvs.len, hl]
        rw [hvl] at this
        simpa [Builtin.firstCells] using this
      | @esl _ _ _ a' =>
        refine ⟨#[], by simp [Builtin.lenOf], ?_, ?_, h1, hl⟩
        · simp [Builtin.firstCells, loadCells, loadCellsFrom]
        · have : c = [] := List.eq_nil_of_length_eq_zero (by simpa using hl)
          rw [this]; exact .nil
  · rename_i b
    cases hb : Nat.beq sz 1 with
    | false => simp [hb] at hn
    | true =>
    obtain rfl := Nat.eq_of_beq_eq_true hb
    simp only [hb, cond_true, Option.some.injEq, Prod.mk.injEq] at hn
    obtain ⟨rfl, rfl⟩ := hn
    cases hv.string_inv
    have hex : (b.extract 0 b.size).data = b.data := by simp
    refine ⟨b.data.map fun u => .int .u8 u.toNat, by simp [Builtin.lenOf], by simp [Builtin.firstCells], ?_, ?_, ?_⟩
    · rw [Array.toList_map]
      exact VRs.flat fun u hu => by
        obtain ⟨x, _, rfl⟩ := List.mem_map.1 hu
        exact .int _ _
    · intro u hu
      obtain ⟨x, _, rfl⟩ := List.mem_map.1 hu
      rfl
    · simp
  · simp at hn

theorem le_grownCap (w : World) (need old : Nat) (e : TypeId) : need ≤ grownCap w need old e := by
  simp [grownCap, Question.cut]

theorem run_append (w : World) {t u e : TypeId} {i : TypeInfo} {z : Value} (ht : P.underlying t = some (.slice e)) (hi : P.info? e = some i) (hz : i.zero = some z) (hu : (∃ e', P.underlying u = some (.slice e')) ∨ P.underlying u = some .string)
    {base : Option Addr} {len cap n : Nat} {y : Value} {news news2 old : Array Value} (ty : TypeId) (hl : (Builtin.lenOf y).run P w = .ok n w) (hf : (Builtin.firstCells i.size n y).run P w = .ok news w) (hf' : (Builtin.firstCells i.size n y).run P w.drew = .ok news2 w.drew)
    (hold : (Builtin.firstCells i.size len (.slice base len cap)).run P w.drew = .ok old w.drew) (hgrow : cap < len + n → Builtin.nextslicecap (len + n) cap * i.bytes ≤ 281474976710656) (h63 : len + n ≤ 9223372036854775807) :
    (len + n ≤ cap → (Builtin.append_ #[t, u] ty #[.slice base len cap, y]).run P w = (match base with | some a => (storeCells (a.add (len * i.size)) news.toList).run P w | none => .ok () w).andThen fun _ w' => .ok (.slice base (len + n) cap) w') ∧
    (cap < len + n → (Builtin.append_ #[t, u] ty #[.slice base len cap, y]).run P w =
      .ok (.slice (some ⟨w.heap.size, 0, none⟩) (len + n) (grownCap w (len + n) cap e)) (w.drew.alloc (.cells (old ++ news2 ++ Builtin.zeroCells z.cells (grownCap w (len + n) cap e - (len + n))) e))) := by
  constructor
  · intro hroom
    rcases hu with ⟨e', hu⟩ | hu <;> cases base <;>
      simp [Builtin.append_, run_underlying ht, run_underlying hu, sizeOf, typeInfo, hi, hl, hroom, hf]
  · intro hroom
    have hg := hgrow hroom
    have h1 : ¬ (len + n ≤ cap) := by omega
    have h2 : ¬ (281474976710656 < Builtin.nextslicecap (len + n) cap * i.bytes) := by omega
    have h3 : ¬ (9223372036854775807 < ((len : Int) + (n : Int))) := by omega
    rcases hu with ⟨e', hu⟩ | hu <;>
      simp [Builtin.append_, run_underlying ht, run_underlying hu, sizeOf, typeInfo, zeroValue, hi, hz, hl, h1, h2, h3, Question.forced, hf', hold, newRow, grownCap]

/-- A row that is shared may not be written any more. -/
theorem WR.share (h : WR pr m s w) {i : Nat} {c : List Value} {f : Nat} {kin : Bool} (hi : s.heap i = some (.arr c f true kin)) : WR pr m (s.upd i (.arr c f false kin)) w := by
  have old : ∀ j oj, (s.upd i (.arr c f false kin)).heap j = some oj → j = i ∧ oj = .arr c f false kin ∨ j ≠ i ∧ s.heap j = some oj := fun j oj hj => by
    simp only [St.upd] at hj
    split at hj
    · left; exact ⟨‹_›, (by simpa using hj.symm)⟩
    · right; exact ⟨‹_›, hj⟩
  exact {
    os := h.os
    tape := h.tape
    out := h.out
    prot := h.prot
    lt := h.lt
    nx := fun j hj => by
      have := h.nx j hj
      refine ⟨this.1, ?_⟩
      simp only [St.upd]
      rw [if_neg (by rintro rfl; rw [hi] at this; cases this.2)]
      exact this.2
    gl := h.gl
    nd := h.nd
    nf := fun j cj fj own kj hj => by
      rcases old j _ hj with ⟨rfl, e⟩ | ⟨_, e⟩
      · cases e; exact h.nf _ _ _ _ _ hi
      · exact h.nf j cj fj own kj e
    ob := fun j oj hj hr => by
      rcases old j _ hj with ⟨rfl, rfl⟩ | ⟨_, e⟩
      · obtain ⟨p, hp, cur, e, fz, hb, ht, hle, hv, h1, _⟩ := h.ob _ _ hi rfl
        exact ⟨p, hp, cur, e, fz, hb, ht, hle, hv, h1, fun h => by cases h⟩
      · exact h.ob j oj e (by cases oj <;> exact hr)
    sep := fun k o p j oj q hk hw hp hjk hj hr hq hqb => by
      rcases old k _ hk with ⟨rfl, rfl⟩ | ⟨hki, e⟩
      · cases hw
      · rcases old j _ hj with ⟨rfl, rfl⟩ | ⟨_, e'⟩
        · have := h.sep k o p _ _ q e hw hp hjk hi rfl hq hqb
          cases o with
          | arr ck fk ok kk => cases ok <;> cases kk <;> simp [shr] at this
          | _ => simp [shr] at this
        · exact h.sep k o p j oj q e hw hp hjk e' (by cases oj <;> exact hr) hq hqb }

/-- A family that nobody knows any more. -/
theorem WR.lose (h : WR pr m s w) {i : Nat} {c : List Value} {f : Nat} {own kin : Bool} (hi : s.heap i = some (.arr c f own kin)) : WR pr m ((s.kill f).del i) w := by
  have old : ∀ j oj, ((s.kill f).del i).heap j = some oj → j ≠ i ∧ s.heap j = some oj := fun j oj hj => by
    simp only [St.kill, St.del] at hj
    split at hj
    · cases hj
    · exact ⟨‹_›, hj⟩
  have rr : ∀ o, reads ((s.kill f).del i) o = true → reads s o = true := fun o ho => by
    cases o with
    | arr cj fj own kj =>
      simp only [reads, St.kill, St.del, Bool.or_eq_true, Bool.not_eq_true'] at ho ⊢
      refine ho.imp id fun ho => ?_
      split at ho
      · cases ho
      · exact ho
    | _ => rfl
  exact {
    os := h.os
    tape := h.tape
    out := h.out
    prot := h.prot
    lt := h.lt
    nx := fun j hj => by
      have := h.nx j hj
      refine ⟨this.1, ?_⟩
      simp only [St.kill, St.del]
      split
      · rfl
      · exact this.2
    gl := h.gl
    nd := fun j hj => by
      have := h.nf _ _ _ _ _ hi
      simp only [St.kill, St.del] at hj ⊢
      rw [if_neg (by omega)]
      exact h.nd j hj
    nf := fun j cj fj own kj hj => h.nf j cj fj own kj (old j _ hj).2
    ob := fun j oj hj hr => h.ob j oj (old j _ hj).2 (rr _ hr)
    sep := fun k o p j oj q hk hw hp hjk hj hr hq hqb => h.sep k o p j oj q (old k _ hk).2 hw hp hjk (old j _ hj).2 (rr _ hr) hq hqb }

theorem take_drop_app {cur news : List Value} {base k off : Nat} (h1 : off ≤ k) (h2 : base + k + news.length ≤ cur.length) :
    ((cur.take (base + k) ++ (news ++ cur.drop (base + k + news.length))).drop (base + off)).take (k - off + news.length) = (((cur.drop base).take k).drop off) ++ news := by
  rw [List.drop_append_of_le_length (by rw [List.length_take]; omega), List.drop_take, List.take_append, List.drop_take, List.drop_drop]
  have l1 : (List.take (base + k - (base + off)) (List.drop (base + off) cur)).length = k - off := by rw [List.length_take, List.length_drop]; omega
  rw [List.take_of_length_le (by rw [l1]; omega), l1, show base + k - (base + off) = k - off by omega]
  congr 1
  rw [show k - off + news.length - (k - off) = news.length by omega, List.take_left']
  rfl

theorem take_before {cur news : List Value} {base k q n : Nat} (h1 : q + n ≤ base + k) (h2 : base + k + news.length ≤ cur.length) :
    ((cur.take (base + k) ++ (news ++ cur.drop (base + k + news.length))).drop q).take n = (cur.drop q).take n := by
  rw [List.drop_append_of_le_length (by rw [List.length_take]; omega), List.take_append_of_le_length (by rw [List.length_drop, List.length_take]; omega), List.drop_take, List.take_take, Nat.min_eq_left (by omega)]

/-- Elements are put behind a row that is full, in place. -/
theorem WR.full (h : WR pr m s w) {i : Nat} {c : List Value} {f : Nat} {kin : Bool} (hi : s.heap i = some (.arr c f true kin)) {p : Pl} (hp : m i = some p) {off : Nat} (hoff : off ≤ c.length) {news : List Value} {news' : List Value} (hn : VRs m news news') (hn1 : ∀ u ∈ news, u.oneCell' = true)
    (hroom : p.base + c.length + news.length ≤ p.top) :
    w.there p.b (p.base + c.length) news'.length ∧ WR pr (m.set s.next ⟨p.b, p.base + off, p.top⟩) ((s.upd i (.arr c f false kin)).new (.arr (c.drop off ++ news) f true true)) (w.setCells p.b (p.base + c.length) news') := by
  have hsh := h.share hi
  obtain ⟨p', hp', cur, e, fz, hb, ht, hle, hv, h1, hpr⟩ := h.ob _ _ hi rfl
  rw [hp] at hp'; cases hp'
  obtain ⟨rfl, hpr'⟩ := hpr rfl
  have hlen := hn.len
  obtain ⟨cur', hb', hcur'⟩ := setCells_self p.b (e := e) (fz := (0, 0)) news' (p.base + c.length) w cur hb (by omega)
  obtain ⟨q1, q2, q3, q4⟩ := setCells_os p.b news' (p.base + c.length) w
  have hne : ∀ k, k ≠ p.b → (w.setCells p.b (p.base + c.length) news').heap[k]? = w.heap[k]? := fun k hk => setCells_ne p.b hk news' _ w
  have hsz : cur'.size = cur.size := by
    have := congrArg List.length hcur'
    simp at this
    omega
  have hcl : (cur.toList).length = cur.size := by simp
  have hin : i < s.next := Nat.lt_of_not_le fun hh => by rw [(h.nx i hh).2] at hi; cases hi
  have hfn := h.nf _ _ _ _ _ hi
  have hmn := (h.nx s.next (Nat.le_refl _)).1
  have hs : Sub m (m.set s.next ⟨p.b, p.base + off, p.top⟩) := Sub.set hmn _
  -- elder rows of this block
  have elder : ∀ j oj q, j ≠ i → s.heap j = some oj → reads s oj = true → m j = some q → q.b = p.b → shr (.arr c f true kin) p oj q := fun j oj q hj hoj hr hq hqb => h.sep i _ p j oj q hi rfl hp hj hoj hr hq hqb
  refine ⟨fun j hj => ?_, ?_⟩
  · have hlt : p.base + c.length + j < cur.size := by omega
    simp [World.cell?, World.frozen?, hb, hlt]
  have old : ∀ j oj, ((s.upd i (.arr c f false kin)).new (.arr (c.drop off ++ news) f true true)).heap j = some oj →
      (j = s.next ∧ oj = .arr (c.drop off ++ news) f true true) ∨ (j = i ∧ oj = .arr c f false kin) ∨ (j ≠ s.next ∧ j ≠ i ∧ s.heap j = some oj) := fun j oj hj => by
    have hj : (if j = s.next then some (Ob.arr (c.drop off ++ news) f true true) else if j = i then some (Ob.arr c f false kin) else s.heap j) = some oj := hj
    split at hj
    · left; exact ⟨‹_›, (by simpa using hj.symm)⟩
    · split at hj
      · right; left; exact ⟨‹_›, (by simpa using hj.symm)⟩
      · right; right; exact ⟨‹_›, ‹_›, hj⟩
  have rr : ∀ o, reads ((s.upd i (.arr c f false kin)).new (.arr (c.drop off ++ news) f true true)) o = reads s o := fun o => by cases o <;> rfl
  exact {
    os := q1.trans h.os
    tape := q2.trans h.tape
    out := q3.trans h.out
    prot := fun k o hk => by
      rw [hne k (by rintro rfl; rw [hpr'] at hk; cases hk)]
      exact h.prot k o hk
    lt := fun j q hq => by
      rw [q4]
      by_cases hj : j = s.next
      · subst hj; rw [Mu.set_self] at hq; cases hq; exact h.lt i p hp
      · rw [Mu.set_ne _ _ hj] at hq; exact h.lt j q hq
    nx := fun j hj => by
      have hj : s.next + 1 ≤ j := hj
      have := h.nx j (by omega)
      refine ⟨by rw [Mu.set_ne _ _ (by omega)]; exact this.1, ?_⟩
      show (if j = s.next then some (Ob.arr (c.drop off ++ news) f true true) else if j = i then some (Ob.arr c f false kin) else s.heap j) = none
      rw [if_neg (by omega), if_neg (by omega)]
      exact this.2
    gl := h.gl
    nd := fun j hj => by
      have hj : s.next + 1 ≤ j := hj
      exact h.nd j (by omega)
    nf := fun j cj fj own kj hj => by
      rcases old j _ hj with ⟨_, e⟩ | ⟨_, e⟩ | ⟨_, _, e⟩
      · cases e; exact Nat.lt_succ_of_lt hfn
      · cases e; exact Nat.lt_succ_of_lt hfn
      · exact Nat.lt_succ_of_lt (h.nf j cj fj own kj e)
    ob := fun j oj hj hr => by
      rw [rr] at hr
      rcases old j _ hj with ⟨rfl, rfl⟩ | ⟨rfl, rfl⟩ | ⟨hj1, hj2, e'⟩
      · refine ⟨_, Mu.set_self .., cur', e, (0, 0), hb', by rw [hsz]; exact ht, by simp only [List.length_append, List.length_drop]; omega, ?_, ?_, fun _ => ⟨rfl, hpr'⟩⟩
        · have e1 : (c.drop off ++ news).length = c.length - off + news'.length := by simp; omega
          rw [e1, hcur']
          rw [take_drop_app hoff (by omega)]
          exact ((hv.drop off).app hn).mono hs
        · intro v hv
          rcases List.mem_append.1 hv with hv | hv
          · exact h1 v (List.mem_of_mem_drop hv)
          · exact hn1 v hv
      · refine ⟨p, hs _ _ hp, cur', e, (0, 0), hb', by rw [hsz]; exact ht, by omega, ?_, h1, fun h => by cases h⟩
        rw [hcur', take_before (by omega) (by omega)]
        exact hv.mono hs
      · obtain ⟨q, hq, hob⟩ := h.ob j oj e' hr
        by_cases hqb : q.b = p.b
        · have hshr := elder j oj q hj2 e' hr hq hqb
          cases kin with
          | false => simp [shr] at hshr
          | true =>
          cases oj with
          | arr cj fj own kj =>
            cases own with
            | true => simp [shr] at hshr
            | false =>
            obtain ⟨_, hend⟩ := hshr
            obtain ⟨curj, ej, fzj, hbj, htj, hlej, hvj, h1j, _⟩ := hob
            rw [hqb, hb] at hbj; cases hbj
            refine ⟨q, hs _ _ hq, cur', e, (0, 0), by rw [hqb]; exact hb', by rw [hsz]; exact htj, by omega, ?_, h1j, fun h => by cases h⟩
            rw [hcur', take_before (by omega) (by omega)]
            exact hvj.mono hs
          | _ => simp [shr] at hshr
        · exact ⟨q, hs _ _ hq, (hob.heap (hne _ hqb)).mono hs⟩
    sep := fun k o pk j oj q hk hw hpk hjk hj hr hq hqb => by
      rw [rr] at hr
      rcases old k _ hk with ⟨rfl, rfl⟩ | ⟨rfl, rfl⟩ | ⟨hk1, hk2, ek⟩
      · rw [Mu.set_self] at hpk; cases hpk
        rcases old j _ hj with ⟨e0, _⟩ | ⟨rfl, rfl⟩ | ⟨hj1, hj2, e'⟩
        · exact absurd e0 hjk
        · rw [Mu.set_ne _ _ hjk, hp] at hq; cases hq
          refine ⟨rfl, ?_⟩
          simp only [List.length_append, List.length_drop]
          omega
        · rw [Mu.set_ne _ _ hj1] at hq
          have hshr := elder j oj q hj2 e' hr hq hqb
          cases kin with
          | false => simp [shr] at hshr
          | true =>
          cases oj with
          | arr cj fj own kj =>
            cases own with
            | true => simp [shr] at hshr
            | false =>
              obtain ⟨hf, hend⟩ := hshr
              refine ⟨hf, ?_⟩
              simp only [List.length_append, List.length_drop]
              omega
          | _ => simp [shr] at hshr
      · cases hw
      · rw [Mu.set_ne _ _ hk1] at hpk
        -- two rows that may be written never share a block
        have no : pk.b ≠ p.b := fun hb0 => by
          have := h.sep k o pk i _ p ek hw hpk (Ne.symm hk2) hi rfl hp hb0.symm
          cases o with
          | arr ck fk ok kk => cases ok <;> cases kk <;> simp [shr] at this
          | _ => simp [shr] at this
        rcases old j _ hj with ⟨rfl, rfl⟩ | ⟨rfl, rfl⟩ | ⟨hj1, hj2, e'⟩
        · rw [Mu.set_self] at hq; cases hq
          exact absurd hqb.symm no
        · rw [Mu.set_ne _ _ (by omega), hp] at hq; cases hq
          exact absurd hqb.symm no
        · rw [Mu.set_ne _ _ hj1] at hq
          exact h.sep k o pk j oj q ek hw hpk hjk e' hr hq hqb }

/-- Elements are put over the end of a row, in place. -/
theorem WR.over (h : WR pr m s w) {i : Nat} {c : List Value} {f : Nat} {kin : Bool} (hi : s.heap i = some (.arr c f true kin)) {p : Pl} (hp : m i = some p) {off k : Nat} (hoff : off ≤ k) (hk : k ≤ c.length) {news : List Value} {news' : List Value} (hn : VRs m news news') (hn1 : ∀ u ∈ news, u.oneCell' = true)
    (hroom : p.base + k + news.length ≤ p.top) :
    w.there p.b (p.base + k) news'.length ∧ WR pr (m.set s.next ⟨p.b, p.base + off, p.top⟩) (((s.kill f).del i).new (.arr ((c.drop off).take (k - off) ++ news) s.next true false)) (w.setCells p.b (p.base + k) news') := by
  obtain ⟨p', hp', cur, e, fz, hb, ht, hle, hv, h1, hpr⟩ := h.ob _ _ hi rfl
  rw [hp] at hp'; cases hp'
  obtain ⟨rfl, hpr'⟩ := hpr rfl
  have hlen := hn.len
  obtain ⟨cur', hb', hcur'⟩ := setCells_self p.b (e := e) (fz := (0, 0)) news' (p.base + k) w cur hb (by omega)
  obtain ⟨q1, q2, q3, q4⟩ := setCells_os p.b news' (p.base + k) w
  have hne : ∀ k', k' ≠ p.b → (w.setCells p.b (p.base + k) news').heap[k']? = w.heap[k']? := fun k' hk' => setCells_ne p.b hk' news' _ w
  have hsz : cur'.size = cur.size := by
    have := congrArg List.length hcur'
    simp at this
    omega
  have hcl : (cur.toList).length = cur.size := by simp
  have hin : i < s.next := Nat.lt_of_not_le fun hh => by rw [(h.nx i hh).2] at hi; cases hi
  have hfn := h.nf _ _ _ _ _ hi
  have hmn := (h.nx s.next (Nat.le_refl _)).1
  have hs : Sub m (m.set s.next ⟨p.b, p.base + off, p.top⟩) := Sub.set hmn _
  have hlo := h.lose hi
  refine ⟨fun j hj => ?_, ?_⟩
  · have hlt : p.base + k + j < cur.size := by omega
    simp [World.cell?, World.frozen?, hb, hlt]
  have old : ∀ j oj, (((s.kill f).del i).new (.arr ((c.drop off).take (k - off) ++ news) s.next true false)).heap j = some oj →
      (j = s.next ∧ oj = .arr ((c.drop off).take (k - off) ++ news) s.next true false) ∨ (j ≠ s.next ∧ j ≠ i ∧ s.heap j = some oj) := fun j oj hj => by
    have hj : (if j = s.next then some (Ob.arr ((c.drop off).take (k - off) ++ news) s.next true false) else if j = i then none else s.heap j) = some oj := hj
    split at hj
    · left; exact ⟨‹_›, (by simpa using hj.symm)⟩
    · split at hj
      · cases hj
      · right; exact ⟨‹_›, ‹_›, hj⟩
  have rr : ∀ o, reads (((s.kill f).del i).new (.arr ((c.drop off).take (k - off) ++ news) s.next true false)) o = true → reads s o = true := fun o ho => by
    cases o with
    | arr cj fj own kj =>
      simp only [reads, St.kill, St.del, St.new, Bool.or_eq_true, Bool.not_eq_true'] at ho ⊢
      refine ho.imp id fun ho => ?_
      split at ho
      · cases ho
      · exact ho
    | _ => rfl
  -- nobody else is read in this block
  have alone : ∀ j oj q, j ≠ i → s.heap j = some oj → reads (((s.kill f).del i).new (.arr ((c.drop off).take (k - off) ++ news) s.next true false)) oj = true → m j = some q → q.b ≠ p.b := by
    intro j oj q hj hoj hr hq hqb
    have hshr := h.sep i _ p j oj q hi rfl hp hj hoj (rr _ hr) hq hqb
    cases kin with
    | false => simp [shr] at hshr
    | true =>
    cases oj with
    | arr cj fj own kj =>
      cases own with
      | true => simp [shr] at hshr
      | false =>
        obtain ⟨rfl, _⟩ := hshr
        simp [reads, St.new, St.del, St.kill] at hr
    | _ => simp [shr] at hshr
  exact {
    os := q1.trans h.os
    tape := q2.trans h.tape
    out := q3.trans h.out
    prot := fun k' o hk' => by
      rw [hne k' (by rintro rfl; rw [hpr'] at hk'; cases hk')]
      exact h.prot k' o hk'
    lt := fun j q hq => by
      rw [q4]
      by_cases hj : j = s.next
      · subst hj; rw [Mu.set_self] at hq; cases hq; exact h.lt i p hp
      · rw [Mu.set_ne _ _ hj] at hq; exact h.lt j q hq
    nx := fun j hj => by
      have hj : s.next + 1 ≤ j := hj
      have := hlo.nx j (by show s.next ≤ j; omega)
      refine ⟨by rw [Mu.set_ne _ _ (by omega)]; exact this.1, ?_⟩
      show (if j = s.next then some (Ob.arr ((c.drop off).take (k - off) ++ news) s.next true false) else if j = i then none else s.heap j) = none
      rw [if_neg (by omega)]
      exact this.2
    gl := h.gl
    nd := fun j hj => by
      have hj : s.next + 1 ≤ j := hj
      exact hlo.nd j (by show s.next ≤ j; omega)
    nf := fun j cj fj own kj hj => by
      rcases old j _ hj with ⟨_, e⟩ | ⟨_, _, e⟩
      · cases e; exact Nat.lt_succ_self _
      · exact Nat.lt_succ_of_lt (h.nf j cj fj own kj e)
    ob := fun j oj hj hr => by
      rcases old j _ hj with ⟨rfl, rfl⟩ | ⟨hj1, hj2, e'⟩
      · have l1 : ((c.drop off).take (k - off)).length = k - off := by rw [List.length_take, List.length_drop]; omega
        refine ⟨_, Mu.set_self .., cur', e, (0, 0), hb', by rw [hsz]; exact ht, by rw [List.length_append, l1]; simp only; omega, ?_, ?_, fun _ => ⟨rfl, hpr'⟩⟩
        · have e1 : ((c.drop off).take (k - off) ++ news).length = k - off + news'.length := by rw [List.length_append, l1]; omega
          rw [e1, hcur']
          rw [take_drop_app hoff (by omega)]
          have : ((cur.toList.drop p.base).take k).drop off = (((cur.toList.drop p.base).take c.length).drop off).take (k - off) := by
            rw [List.drop_take, List.drop_take, List.take_take, Nat.min_eq_left (by omega)]
          rw [this]
          exact (((hv.drop off).take (k - off)).app hn).mono hs
        · intro v hv
          rcases List.mem_append.1 hv with hv | hv
          · exact h1 v (List.mem_of_mem_drop (List.mem_of_mem_take hv))
          · exact hn1 v hv
      · obtain ⟨q, hq, hob⟩ := h.ob j oj e' (rr _ hr)
        exact ⟨q, hs _ _ hq, (hob.heap (hne _ (alone j oj q hj2 e' hr hq))).mono hs⟩
    sep := fun k' o pk j oj q hk' hw hpk hjk hj hr hq hqb => by
      rcases old k' _ hk' with ⟨rfl, rfl⟩ | ⟨hk1, hk2, ek⟩
      · rw [Mu.set_self] at hpk; cases hpk
        rcases old j _ hj with ⟨e0, _⟩ | ⟨hj1, hj2, e'⟩
        · exact absurd e0 hjk
        · rw [Mu.set_ne _ _ hj1] at hq
          exact absurd hqb (alone j oj q hj2 e' hr hq)
      · rw [Mu.set_ne _ _ hk1] at hpk
        rcases old j _ hj with ⟨rfl, rfl⟩ | ⟨hj1, hj2, e'⟩
        · rw [Mu.set_self] at hq; cases hq
          exact absurd hqb.symm (alone k' o pk hk2 ek (reads_of_writes hw) hpk)
        · rw [Mu.set_ne _ _ hj1] at hq
          exact h.sep k' o pk j oj q ek hw hpk hjk e' (rr _ hr) hq hqb }

theorem zeroCells_size (z : Array Value) (n : Nat) : (Builtin.zeroCells z n).size = n * z.size := by simp [Builtin.zeroCells]

/-- A row that is grown. -/
theorem WR.grown (h : WR pr m s w) {c : List Value} {cs : Array Value} (hv : VRs m c cs.toList) (h1 : ∀ u ∈ c, u.oneCell' = true) {k newCap sz : Nat} (hlen : c.length = k * sz) {zs : Array Value} (hz : zs.size = sz) (hcap : k ≤ newCap) (e : TypeId) (f : Nat) (kin : Bool) (hf : f < s.next + 1) :
    ∃ m', VR m' (.slice (some ⟨s.next, 0, none⟩) k sz) (.slice (some ⟨w.heap.size, 0, none⟩) k newCap) ∧ WR pr m' (s.new (.arr c f true kin)) (w.drew.alloc (.cells (cs ++ Builtin.zeroCells zs (newCap - k)) e)) ∧ Ext m w.heap.size m' := by
  have hcs : cs.size = k * sz := by rw [← Array.length_toList, ← hv.len, hlen]
  have hsz : (cs ++ Builtin.zeroCells zs (newCap - k)).size = newCap * sz := by
    rw [Array.size_append, zeroCells_size, hcs, hz, ← Nat.add_mul]
    congr 1
    omega
  have hd : WR pr m s w.drew := h.drew _
  have := hd.newArr (c := c) (cs ++ Builtin.zeroCells zs (newCap - k)) e f kin (by rw [hsz, hlen]; exact Nat.mul_le_mul_right _ hcap) (by
    rw [Array.toList_append, List.take_append_of_le_length (Nat.le_of_eq hv.len), List.take_of_length_le (Nat.le_of_eq hv.len.symm)]
    exact hv) h1 hf
  refine ⟨_, ?_, this, (Ext.refl m _).set (h.nx _ (Nat.le_refl _)).1 _ (.inl (Nat.le_refl _))⟩
  exact .sl (p := ⟨w.heap.size, 0, (cs ++ Builtin.zeroCells zs (newCap - k)).size⟩) (Mu.set_self ..) hcap (by simp only [hsz]; omega)

theorem append_sound (h : WR pr m s w) {t u e ty : TypeId} {zv : Value} (he : elemT P t = some e) (hby : 0 < bytesT P e) (hz : zeroT P e = some zv) (hzs : zv.cells.size = sizeT P e)
    (hu : (∃ e', P.underlying u = some (.slice e')) ∨ P.underlying u = some .string) {x x' y y' : Value} (hx : VR m x x') (hy : VR m y y') {news : List Value} {n : Nat} (hn : newsX s (sizeT P e) y = some (news, n))
    (hroom : (lenX x + n) * bytesT P e ≤ 70368744177664) {K : Value → St → Prop} (hk : appX s (sizeT P e) n news x K) :
    ∃ v s' m' v' w', K v s' ∧ VR m' v v' ∧ WR pr m' s' w' ∧ Ext m w.heap.size m' ∧ w.heap.size ≤ w'.heap.size ∧
      (∀ k, k < w.heap.size → (∀ i p, m i = some p → p.b ≠ k) → w'.heap[k]? = w.heap[k]?) ∧ (Builtin.append_ #[t, u] ty #[x', y']).run P w = .ok v' w' := by
  have ht := elemT_under he
  obtain ⟨i, hi⟩ : ∃ i, P.info? e = some i := by
    unfold zeroT at hz
    cases hi : P.info? e with
    | none => simp [hi] at hz
    | some i => exact ⟨i, rfl⟩
  have hiz : i.zero = some zv := by simpa [zeroT, hi] using hz
  have his : i.size = sizeT P e := by simp [sizeT, hi]
  have hib : i.bytes = bytesT P e := by simp [bytesT, hi]
  have hd : WR pr m s w.drew := h.drew _
  obtain ⟨news', hl, hf, hvn, hn1, hnl⟩ := news_sound (P := P) h hy hn
  obtain ⟨news2, _, hf2, hvn2, _, _⟩ := news_sound (P := P) hd hy hn
  rw [← his] at hf hf2
  have hgrow : ∀ cap, cap < lenX x + n → Builtin.nextslicecap (lenX x + n) cap * i.bytes ≤ 281474976710656 := fun cap hc => growslice_fits hc (by rw [hib]; omega)
  have h63 : lenX x + n ≤ 9223372036854775807 := by
    have : lenX x + n ≤ (lenX x + n) * bytesT P e := Nat.le_mul_of_pos_right _ hby
    omega
  have pushed : ∀ (cs : Array Value) (k : Nat), k < w.heap.size → (w.drew.alloc (.cells cs e)).heap[k]? = w.heap[k]? := fun cs k hk => by
    have : (w.drew.alloc (.cells cs e)).heap[k]? = if k = w.heap.size then some (.cells cs e) else w.heap[k]? := heap_alloc w.drew _ k
    rw [this, if_neg (by omega)]
  have psz : ∀ cs : Array Value, w.heap.size ≤ (w.drew.alloc (.cells cs e)).heap.size := fun cs => by
    show w.heap.size ≤ (w.heap.push _).size
    simp
  unfold appX at hk
  split at hk
  · -- nil
    rename_i len sz'
    cases hx
    have hold : (Builtin.firstCells i.size 0 (.slice none 0 0)).run P w.drew = .ok #[] w.drew := by simp [Builtin.firstCells]
    obtain ⟨hr1, hr2⟩ := run_append (P := P) w ht hi hiz hu (base := none) (len := 0) (cap := 0) (n := n) ty hl hf hf2 hold (fun hc => hgrow 0 hc) (by simpa [lenX] using h63)
    rcases Nat.eq_zero_or_pos n with hn0 | hn0
    · refine ⟨_, s, m, _, w, hk.1 hn0, .nilsl, h, Ext.refl m _, Nat.le_refl _, fun _ _ _ => rfl, ?_⟩
      rw [hr1 (by omega)]
      subst hn0
      rfl
    · have hk := hk.2 hn0
      obtain ⟨m', hvr, hwr, hext⟩ := h.grown hvn2 hn1 (k := n) (newCap := grownCap w (0 + n) 0 e) hnl hzs (by have := le_grownCap w (0 + n) 0 e; omega) e s.next false (Nat.lt_succ_self _)
      refine ⟨_, _, m', _, _, hk, hvr, hwr, hext, psz _, fun k hk _ => pushed _ k hk, ?_⟩
      rw [hr2 (by omega)]
      simp
  · rename_i i0 off len sz'
    simp only [lenX] at hgrow h63
    rcases Nat.eq_zero_or_pos n with hn0 | hn0
    · have hk := hk.1 hn0
      have hnews' : news'.toList = [] := List.eq_nil_of_length_eq_zero (by rw [← hvn.len, hnl, hn0]; simp)
      have hgo : ∀ (ad : Addr) (len cap : Nat), x' = .slice (some ad) len cap → len ≤ cap → (Builtin.append_ #[t, u] ty #[x', y']).run P w = .ok x' w := by
        rintro ad len cap rfl hlc
        subst hn0
        rcases hu with ⟨e', hu⟩ | hu <;> simp [Builtin.append_, run_underlying ht, run_underlying hu, sizeOf, typeInfo, hi, hl, hf, hnews', hlc, storeCells]
      refine ⟨_, s, m, x', w, hk, hx, h, Ext.refl m _, Nat.le_refl _, fun _ _ _ => rfl, ?_⟩
      cases hx with
      | sl hm hlc ht => exact hgo _ _ _ rfl hlc
      | esl => exact hgo _ _ _ rfl (Nat.le_refl _)
    · obtain ⟨hsz, c, f, kin, hi0, hle, hk1, hk2⟩ := hk.2 hn0
      subst hsz
      have hxn : newsX s (sizeT P e) (.slice (some ⟨i0, off, none⟩) len (sizeT P e)) = some ((c.drop off).take (len * sizeT P e), len) := by
        simp [newsX, St.rd, St.row, hi0, sub, Nat.beq_refl, Nat.ble_eq_true_of_le hle]
      obtain ⟨old, _, hfo, hvo, ho1, hol⟩ := news_sound (P := P) hd hx hxn
      rw [← his] at hfo
      have hfn := h.nf _ _ _ _ _ hi0
      have happ : VRs m ((c.drop off).take (len * sizeT P e) ++ news) (old ++ news2).toList := by rw [Array.toList_append]; exact hvo.app hvn2
      have hones : ∀ u ∈ (c.drop off).take (len * sizeT P e) ++ news, u.oneCell' = true := fun u hu => (List.mem_append.1 hu).elim (ho1 u) (hn1 u)
      have hal : ((c.drop off).take (len * sizeT P e) ++ news).length = (len + n) * sizeT P e := by rw [List.length_append, hol, hnl, Nat.add_mul]
      -- a row that has grown
      have grow : ∀ ad cap, x' = .slice (some ad) len cap → cap < len + n → (∃ v s' m' v' w', K v s' ∧ VR m' v v' ∧ WR pr m' s' w' ∧ Ext m w.heap.size m' ∧ w.heap.size ≤ w'.heap.size ∧
          (∀ k, k < w.heap.size → (∀ i p, m i = some p → p.b ≠ k) → w'.heap[k]? = w.heap[k]?) ∧ (Builtin.append_ #[t, u] ty #[x', y']).run P w = .ok v' w') := by
        rintro ad cap rfl hcap
        obtain ⟨_, hr2⟩ := run_append (P := P) w ht hi hiz hu (base := some ad) (len := len) (cap := cap) (n := n) ty hl hf hf2 (by
          cases hx with
          | sl hm hlc ht => simpa [Builtin.firstCells] using hfo
          | esl => simpa [Builtin.firstCells] using hfo) (hgrow cap) h63
        have hcc := le_grownCap w (len + n) cap e
        rcases Nat.lt_or_eq_of_le hle with hlt | heq
        · obtain ⟨m', hvr, hwr, hext⟩ := (h.lose hi0).grown happ hones hal hzs hcc e s.next false (Nat.lt_succ_self _)
          exact ⟨_, _, m', _, _, hk2 hlt, hvr, hwr, hext, psz _, fun k hk _ => pushed _ k hk, hr2 hcap⟩
        · have htk : (c.drop off).take (len * sizeT P e) = c.drop off := List.take_of_length_le (by rw [List.length_drop]; omega)
          rw [htk] at happ hones hal
          obtain ⟨m', hvr, hwr, hext⟩ := (h.share hi0).grown happ hones hal hzs hcc e f true (Nat.lt_succ_of_lt hfn)
          exact ⟨_, _, m', _, _, hk1 heq, hvr, hwr, hext, psz _, fun k hk _ => pushed _ k hk, hr2 hcap⟩
      cases hx with
      | @esl _ _ _ a => exact grow a 0 rfl (by omega)
      | @sl _ _ _ cap _ p hm hlc htop =>
        by_cases hcap : cap < len + n
        · exact grow _ cap rfl hcap
        obtain ⟨hr1, _⟩ := run_append (P := P) w ht hi hiz hu (base := some ⟨p.b, p.base + off, none⟩) (len := len) (cap := cap) (n := n) ty hl hf hf2 (by simpa [Builtin.firstCells] using hfo) (hgrow cap) h63
        have hmul : (len + n) * sizeT P e ≤ cap * sizeT P e := Nat.mul_le_mul_right _ (by omega)
        rw [Nat.add_mul] at hmul
        have hroom : p.base + (off + len * sizeT P e) + news.length ≤ p.top := by rw [hnl]; omega
        have hvr : VR (m.set s.next ⟨p.b, p.base + off, p.top⟩) (.slice (some ⟨s.next, 0, none⟩) (len + n) (sizeT P e)) (.slice (some ⟨p.b, p.base + off, none⟩) (len + n) cap) := by
          have := VR.sl (m := m.set s.next ⟨p.b, p.base + off, p.top⟩) (i := s.next) (off := 0) (len := len + n) (cap := cap) (sz := sizeT P e) (p := ⟨p.b, p.base + off, p.top⟩) (Mu.set_self ..) (by omega) (by simpa using htop)
          simpa using this
        have hext : Ext m w.heap.size (m.set s.next ⟨p.b, p.base + off, p.top⟩) := (Ext.refl m _).set (h.nx _ (Nat.le_refl _)).1 _ (.inr ⟨i0, p, hm, rfl⟩)
        have hadd : (⟨p.b, p.base + off, none⟩ : Addr).add (len * i.size) = ⟨p.b, p.base + (off + len * sizeT P e), none⟩ := by
          rw [Addr.add_mid, his, Nat.add_assoc]
        have h1' := hvn.ones hn1
        have hst : ∀ (hth : w.there p.b (p.base + (off + len * sizeT P e)) news'.toList.length), (storeCells ((⟨p.b, p.base + off, none⟩ : Addr).add (len * i.size)) news'.toList).run P w = .ok () (w.setCells p.b (p.base + (off + len * sizeT P e)) news'.toList) := fun hth => by
          rw [hadd]
          have := run_storeCells_cells (P := P) p.b (p.base + (off + len * sizeT P e)) news'.toList 0 w (fun j hj => by simpa using (hth j hj).1) (fun j hj => by simpa using (hth j hj).2) h1'
          simpa using this
        obtain ⟨q1, q2, q3, q4⟩ := setCells_os p.b news'.toList (p.base + (off + len * sizeT P e)) w
        have hfar : ∀ k, k < w.heap.size → (∀ i q, m i = some q → q.b ≠ k) → (w.setCells p.b (p.base + (off + len * sizeT P e)) news'.toList).heap[k]? = w.heap[k]? := fun k _ hk => setCells_ne p.b (fun e => hk i0 p hm e.symm) _ _ w
        rcases Nat.lt_or_eq_of_le hle with hlt | heq
        · obtain ⟨hth, hwr⟩ := h.over hi0 hm (off := off) (k := off + len * sizeT P e) (by omega) hle hvn hn1 (by omega)
          rw [Nat.add_sub_cancel_left] at hwr
          refine ⟨_, _, _, _, _, hk2 hlt, hvr, hwr, hext, by rw [q4]; exact Nat.le_refl _, hfar, ?_⟩
          rw [hr1 (by omega)]
          simp only [hst hth, Result.andThen_ok]
        · obtain ⟨hth, hwr⟩ := h.full hi0 hm (off := off) (by omega) hvn hn1 (by omega)
          rw [← heq] at hth hwr
          refine ⟨_, _, _, _, _, hk1 heq, hvr, hwr, hext, by rw [q4]; exact Nat.le_refl _, hfar, ?_⟩
          rw [hr1 (by omega)]
          simp only [hst hth, Result.andThen_ok]
  · exact hk.elim

end
end Go.Proofs.Ytbcjgolkcfdnfaa.Sim
