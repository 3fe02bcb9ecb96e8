import Derived.Test.YtbcjgolkcfdnfaaSimJ
/- Sim, eleventh text: two operations beside one another change places. No condition. -/
namespace Go.Proofs.Ytbcjgolkcfdnfaa.Sim
open Go

section
variable {P : Program} {C : CT} {esc : List Nat} {g : Nat → Option Tmp} {Q : Ex → A → St → Prop} {K K' : A → St → Prop} {a : A} {s : St} {o : Oper}

theorem t_put_ne {a : A} {d : Option Tmp} {v : Value} {t : Tmp} (h : d ≠ some t) : (a.put d v).t t = a.t t := by
  cases d with
  | none => rfl
  | some d => rw [t_put, if_neg]; rintro rfl; exact h rfl
theorem l_put {a : A} {d : Option Tmp} {v : Value} : (a.put d v).l = a.l := by cases d <;> rfl
theorem d_put {a : A} {d : Option Tmp} {v : Value} : (a.put d v).d = a.d := by cases d <;> rfl

/-- Behind an operation all slots but its own are as they were. -/
theorem opX_keep (hC : MonoQ C Q) (h : opX P C esc o Q K a s) : opX P C esc o Q (fun a' s' => (∀ t, o.dst ≠ some t → a'.t t = a.t t) ∧ K a' s') a s := by
  have hp : ∀ (b : A) v, b.t = a.t → ∀ t, o.dst ≠ some t → (b.put o.dst v).t t = a.t t := fun b v hb t ht => by rw [t_put_ne ht, hb]
  have halloc : ∀ c, allocX esc o.dst c K a s → allocX esc o.dst c (fun a' s' => (∀ t, o.dst ≠ some t → a'.t t = a.t t) ∧ K a' s') a s := by
    intro c hc
    unfold allocX at hc ⊢
    cases hdst : o.dst with
    | none => rw [hdst] at hc; exact hc
    | some t =>
      rw [hdst] at hc hp
      simp only at hc ⊢
      cases hesc : esc.contains t with
      | true => simp only [hesc, cond_true] at hc ⊢; exact ⟨hp a _ rfl, hc⟩
      | false => simp only [hesc, cond_false] at hc ⊢; exact ⟨hp (a.loc t (a.ver t) c) _ rfl, hc⟩
  have hload : ∀ t ad (K1 K2 : Value → Prop), (∀ u, K1 u → K2 u) → loadX P t ad K1 a s → loadX P t ad K2 a s := fun t ad K1 K2 h12 hc => by
    obtain ⟨v, h1, h2⟩ := loadX_iff.1 hc
    exact loadX_iff.2 ⟨v, h1, h12 v h2⟩
  have hcall : ∀ (r : Rt) s', (match (motive := Rt → Prop) r with | .ret u => K (a.put o.dst u) s' | .pan u => Q (.pan u) a s') →
      (match (motive := Rt → Prop) r with | .ret u => (∀ t, o.dst ≠ some t → (a.put o.dst u).t t = a.t t) ∧ K (a.put o.dst u) s' | .pan u => Q (.pan u) a s') := by
    intro r s' hr
    cases r with
    | ret u => exact ⟨hp a _ rfl, hr⟩
    | pan u => exact hr
  unfold opX at h ⊢
  split at h
  · rename_i e he
    cases hz : zeroT P e with
    | none => simp [hz] at h
    | some z => simp only [hz] at h; exact halloc _ h
  · rename_i e x he
    cases hn : noTup (a.ev x) with
    | false => simp [hn] at h
    | true => simp only [hn, cond_true] at h ⊢; exact halloc _ h
  · exact hload _ _ _ _ (fun u hu => ⟨hp a _ rfl, hu⟩) h
  · rename_i t x y he
    unfold storeX at h ⊢
    cases hc : (Nat.beq (a.ev y).cells.size (sizeT P t) && noTup (a.ev y)) with
    | false => simp [hc] at h
    | true =>
    simp only [hc, cond_true] at h ⊢
    split at h
    · obtain ⟨c, c', h1, h2, h3⟩ := h
      exact ⟨c, c', h1, h2, hp a _ rfl, h3⟩
    · split at h
      · rename_i u _ _ _ _ v' _ _
        cases hb : Nat.beq u v' with
        | false => simp [hb] at h
        | true =>
          simp only [hb, cond_true] at h ⊢
          split at h
          · exact ⟨hp (a.loc _ _ _) _ rfl, h⟩
          · exact h.elim
      · exact h.elim
    · exact h.elim
  · exact hC.1 _ _ _ _ _ hcall h
  · split at h
    · exact ⟨h.1, hC.1 _ _ _ _ _ hcall h.2⟩
    · exact h
  · exact ⟨hp { a with d := _ } _ rfl, h⟩
  · split at h
    · exact ⟨h.1, hp { a with d := _ } _ rfl, h.2⟩
    · exact h
  · exact h
  · cases hie : isEffOp P o.op with
    | true =>
      simp only [hie, cond_true] at h ⊢
      exact effX_mono (fun u s' hu => ⟨hp a _ rfl, hu⟩) h
    | false =>
    simp only [hie, cond_false] at h ⊢
    cases hpu : pureX P o.op a.ev with
    | some u => simp only [hpu] at h ⊢; exact ⟨hp a _ rfl, h⟩
    | none =>
      simp only [hpu] at h ⊢
      cases hs : sideX P o.op a.ev with
      | none => simp [hs] at h
      | some cv => obtain ⟨c, u⟩ := cv; simp only [hs] at h ⊢; exact ⟨h.1, hp a _ rfl, h.2⟩

theorem opX_mono (hC : MonoQ C Q) (h : opX P C esc o Q K a s) (hk : ∀ a s, K a s → K' a s) : opX P C esc o Q K' a s :=
  opX_put hC (d := none) (v := undef) (by simp) (by simp) h hk

theorem gX_mono (hC : MonoQ C Q) (h : gX P C esc g Q o K a s) (hk : ∀ a s, K a s → K' a s) : gX P C esc g Q o K' a s := by
  unfold gX at h ⊢
  split at h
  · exact opX_mono hC h hk
  · obtain ⟨b, h1, h2, h3⟩ := h
    exact ⟨b, h1, fun e => opX_mono hC (h2 e) hk, fun e => hk _ _ (h3 e)⟩

theorem gX_keep (hC : MonoQ C Q) (h : gX P C esc g Q o K a s) : gX P C esc g Q o (fun a' s' => (∀ t, o.dst ≠ some t → a'.t t = a.t t) ∧ K a' s') a s := by
  unfold gX at h ⊢
  split at h
  · exact opX_keep hC h
  · obtain ⟨b, h1, h2, h3⟩ := h
    exact ⟨b, h1, fun e => opX_keep hC (h2 e), fun e => ⟨fun t ht => t_put_ne ht, h3 e⟩⟩

theorem guard_put {d : Option Tmp} {v : Value} {j : Nat} {want : Bool} (hg : o.guard = some (j, want)) (hu : ∀ t, d = some t → uses g o t = false) : (g j).map (a.put d v).t = (g j).map a.t := by
  refine bind_map_eq fun u hgu => t_put_ne ?_
  rintro rfl
  have := hu u rfl
  simp [uses, hg, hgu] at this

theorem uses_op {t : Tmp} (h : uses g o t = false) : o.op.operands.toList.any (usesB · t) = false := by
  unfold uses at h
  rw [Bool.or_eq_false_iff] at h
  simpa using h.1

theorem gX_put (hC : MonoQ C Q) {d : Option Tmp} {v : Value} (hu : ∀ t, d = some t → uses g o t = false) (hd : ∀ t, d = some t → o.dst ≠ some t)
    (h : gX P C esc g Q o K (a.put d v) s) (hk : ∀ a' s', K (a'.put d v) s' → K' a' s') : gX P C esc g Q o K' a s := by
  unfold gX at h ⊢
  split at h
  · exact opX_put hC (fun t ht => uses_op (hu t ht)) hd h hk
  · rename_i j want hg
    obtain ⟨b, h1, h2, h3⟩ := h
    rw [guard_put hg hu] at h1
    exact ⟨b, h1, fun e => opX_put hC (fun t ht => uses_op (hu t ht)) hd (h2 e) hk, fun e => hk _ _ (by rw [← put_comm' a hd]; exact h3 e)⟩

/-- What a quiet operation comes to, if its guard says so. -/
def gyX (P : Program) (g : Nat → Option Tmp) (o : Oper) (a : A) (s : St) (v : Value) : Prop :=
  match o.guard with
  | none => yX P o a s v
  | some (j, want) => ∃ b, gB ((g j).map a.t) = some b ∧ (b = some want → yX P o a s v) ∧ (b ≠ some want → v = undef)

theorem gquiet_iff (hq : kindX P esc o = 0) : gX P C esc g Q o K a s ↔ ∃ v, gyX P g o a s v ∧ K (a.put o.dst v) s := by
  cases hg : o.guard with
  | none =>
    simp only [gX, gyX, hg]
    exact quiet_iff hq
  | some jw =>
    obtain ⟨j, want⟩ := jw
    simp only [gX, gyX, hg]
    constructor
    · rintro ⟨b, h1, h2, h3⟩
      by_cases hb : b = some want
      · obtain ⟨v, hy, hk⟩ := (quiet_iff hq).1 (h2 hb)
        exact ⟨v, ⟨b, h1, fun _ => hy, fun e => absurd hb e⟩, hk⟩
      · exact ⟨undef, ⟨b, h1, fun e' => absurd e' hb, fun _ => rfl⟩, h3 hb⟩
    · rintro ⟨v, ⟨b, h1, h2, h3⟩, hk⟩
      refine ⟨b, h1, fun e => (quiet_iff hq).2 ⟨v, h2 e, hk⟩, fun e => ?_⟩
      rw [h3 e] at hk
      exact hk

def isLoad (o : Oper) : Bool := match o.op with | .load _ _ => true | _ => false

theorem ev_congr {a a' : A} {x : Operand} (h : ∀ t, usesB x t = true → a'.t t = a.t t) : a'.ev x = a.ev x := by
  cases x with
  | tmp u => exact h u (by simp [usesB])
  | _ => rfl

theorem gyX_congr {a a' : A} {s s' : St} {v : Value} (ht : ∀ t, uses g o t = true → a'.t t = a.t t) (hl : isLoad o = false ∨ s' = s ∧ a'.l = a.l) (h : gyX P g o a s v) : gyX P g o a' s' v := by
  have hops : ∀ x ∈ o.op.operands, a'.ev x = a.ev x := fun x hx => ev_congr fun t hut => ht t (by
    unfold uses
    rw [Bool.or_eq_true]
    left
    rw [List.any_eq_true]
    exact ⟨x, by simpa using hx, hut⟩)
  have hy : yX P o a s v → yX P o a' s' v := by
    intro hy
    unfold yX at hy ⊢
    split at hy
    · rename_i t x he
      rcases hl with hl | ⟨rfl, hl⟩
      · simp [isLoad, he] at hl
      · rw [hops x (by rw [he]; simp [Op.operands])]
        unfold loadX at hy ⊢
        rw [hl]
        exact hy
    · rw [pureX_congr o.op hops, sideX_congr o.op hops]
      exact hy
  unfold gyX at h ⊢
  split at h
  · exact hy h
  · rename_i j want hg
    obtain ⟨b, h1, h2, h3⟩ := h
    refine ⟨b, ?_, fun e => hy (h2 e), h3⟩
    rw [← h1]
    exact congrArg gB (bind_map_eq fun u hu => ht u (by unfold uses; simp [hg, hu]))

/-! ### Neighbours -/
/-- Two operations that don't look at what the other one writes. -/
def indep (g : Nat → Option Tmp) (x y : Oper) : Bool :=
  (match x.dst with | some d => !uses g y d && !(y.dst == some d) | none => true) && (match y.dst with | some d => !uses g x d | none => true)

theorem indep_spec {x y : Oper} (h : indep g x y = true) : (∀ t, x.dst = some t → uses g y t = false) ∧ (∀ t, x.dst = some t → y.dst ≠ some t) ∧ (∀ t, y.dst = some t → uses g x t = false) := by
  unfold indep at h
  rw [Bool.and_eq_true] at h
  refine ⟨fun t ht => ?_, fun t ht => ?_, fun t ht => ?_⟩
  · rw [ht] at h; simp at h; exact h.1.1
  · rw [ht] at h; simp at h; exact h.1.2
  · rw [ht] at h; simp at h; exact h.2

variable {q i : Oper}

/-- A quiet one ahead of a quiet one. -/
theorem swap_qq (hi : indep g q i = true) (hq : kindX P esc q = 0) (hk : kindX P esc i = 0) (h : gX P C esc g Q q (gX P C esc g Q i K) a s) : gX P C esc g Q i (gX P C esc g Q q K) a s := by
  obtain ⟨h1, h2, h3⟩ := indep_spec hi
  obtain ⟨v, hv, h⟩ := (gquiet_iff hq).1 h
  obtain ⟨u, hu, h⟩ := (gquiet_iff hk).1 h
  refine (gquiet_iff hk).2 ⟨u, gyX_congr (fun t ht => (t_put_ne fun e => ?_).symm) (.inr ⟨rfl, l_put.symm⟩) hu, (gquiet_iff hq).2 ⟨v, gyX_congr (fun t ht => t_put_ne fun e => ?_) (.inr ⟨rfl, l_put⟩) hv, ?_⟩⟩
  · rw [h1 t e] at ht; cases ht
  · rw [h3 t e] at ht; cases ht
  · rw [put_comm' _ (fun t ht e => h2 t e ht)]
    exact h

/-- A quiet one behind one that does something; a load must come to the same there. -/
theorem swap_qe (hC : MonoQ C Q) (ops : Array Oper) (k : Nat) (hkq : ops[k]? = some q) (hi : indep g q i = true) (hself : ∀ t, q.dst = some t → uses g q t = false) (hq : kindX P esc q = 0)
    {S : A → St → Prop} (hS : ∀ (a : A) v s, S (a.put q.dst v) s → S a s)
    (h : gX P C esc g Q q (gX P C esc g Q i (fun a s => (isLoad q = true → stabX P ops k a s) ∧ S a s ∧ K a s)) a s) :
    gX P C esc g Q i (fun a s => S a s ∧ gX P C esc g Q q K a s) a s := by
  obtain ⟨h1, h2, h3⟩ := indep_spec hi
  obtain ⟨v, hv, h⟩ := (gquiet_iff hq).1 h
  have h' := gX_put (K' := fun a' s' => (isLoad q = true → stabX P ops k (a'.put q.dst v) s') ∧ S (a'.put q.dst v) s' ∧ K (a'.put q.dst v) s') hC h1 h2 h fun _ _ hh => hh
  refine gX_mono hC (gX_keep hC h') ?_
  rintro a' s' ⟨hkeep, hst, hs, hk⟩
  refine ⟨hS _ _ _ hs, (gquiet_iff hq).2 ⟨v, ?_, hk⟩⟩
  cases hl : isLoad q with
  | false => exact gyX_congr (fun t ht => hkeep t fun e => by rw [h3 t e] at ht; cases ht) (.inl hl) hv
  | true =>
    have hst := hst hl
    unfold stabX at hst
    rw [hkq] at hst
    obtain ⟨dst, op, type, pos, after, guard⟩ := q
    simp only [isLoad] at hl
    split at hst
    · rename_i d t x _ _ _ e
      cases e
      simp only [gyX, yX]
      have hx : ((a'.put (some d) v).ev x) = a'.ev x := ev_put a' fun u hu => by
        have := uses_op (hself u hu)
        simpa [Op.operands] using this
      have hd : (a'.put (some d) v).t d = v := by rw [t_put]; simp
      simp only [hx, hd] at hst
      unfold loadX at hst ⊢
      rw [l_put] at hst
      exact hst
    · exact hst.elim

/-- A new variable of the function's own. -/
def ownA (a : A) (d : Nat) (c : List Value) : A := (a.loc d (a.ver d) c).put (some d) (.pointer (some ⟨a.ver d, 0, some d⟩))
theorem ownA_t (a : A) (d : Nat) (c : List Value) {t : Nat} (h : t ≠ d) : (ownA a d c).t t = a.t t := by simp [ownA, t_put, h, A.loc]
theorem ownA_l (a : A) (d : Nat) (c : List Value) {t : Nat} (h : t ≠ d) : (ownA a d c).l t = a.l t := by
  simp only [ownA, l_put]
  exact loc_ne _ _ _ h
theorem ownA_bare (a : A) (d : Nat) (c : List Value) : (ownA a d c).bare = a.bare := rfl
theorem ownA_put (a : A) {d : Nat} {c : List Value} {e : Option Tmp} {v : Value} (h : e ≠ some d) : (ownA a d c).put e v = ownA (a.put e v) d c := by
  cases e with
  | none => rfl
  | some e =>
    have hne : e ≠ d := fun hh => h (by rw [hh])
    simp only [ownA]
    rw [put_comm _ hne.symm]
    rfl
theorem ownA_own (a : A) {d e : Nat} {c c' : List Value} (h : d ≠ e) : ownA (ownA a d c) e c' = ownA (ownA a e c') d c := by
  have v1 : (ownA a d c).ver e = a.ver e := by unfold A.ver; rw [ownA_l _ _ _ h.symm]
  have v2 : (ownA a e c').ver d = a.ver d := by unfold A.ver; rw [ownA_l _ _ _ h]
  refine A.ext' (fun i => ?_) (fun i => ?_) rfl
  · show ((A.loc (ownA a d c) e ((ownA a d c).ver e) c').put (some e) _).t i = ((A.loc (ownA a e c') d ((ownA a e c').ver d) c).put (some d) _).t i
    rw [t_put, t_put, v1, v2]
    show (if i = e then _ else (ownA a d c).t i) = (if i = d then _ else (ownA a e c').t i)
    simp only [ownA, t_put]
    by_cases h1 : i = e
    · subst h1; simp [h.symm]
    · by_cases h2 : i = d
      · subst h2; simp [h]
      · simp [h1, h2, A.loc]
  · show (A.loc (ownA a d c) e ((ownA a d c).ver e) c').l i = (A.loc (ownA a e c') d ((ownA a e c').ver d) c).l i
    rw [v1, v2]
    by_cases h1 : i = e
    · subst h1
      rw [loc_self, loc_ne _ _ _ h.symm, show (ownA a i c').l i = some (a.ver i, c') from loc_self ..]
    · by_cases h2 : i = d
      · subst h2
        rw [loc_self, loc_ne _ _ _ h, show (ownA a i c).l i = some (a.ver i, c) from loc_self ..]
      · rw [loc_ne _ _ _ h1, loc_ne _ _ _ h2, ownA_l _ _ _ h2, ownA_l _ _ _ h1]

/-- What a new variable holds. -/
def zX (P : Program) (o : Oper) (a : A) (c : List Value) : Prop :=
  match o.op with
  | .alloc e => ∃ z, zeroT P e = some z ∧ c = z.cells.toList
  | .box _ x => noTup (a.ev x) = true ∧ c = (a.ev x).cells.toList
  | _ => False

theorem kind1 (hk : kindX P esc o = 1) : ∃ d, ownX esc o = some d ∧ o.dst = some d ∧ esc.contains d = false ∧ ((∃ e, o.op = .alloc e) ∨ ∃ e x, o.op = .box e x) := by
  unfold kindX at hk
  split at hk
  · rename_i e he
    cases ho : ownX esc o with
    | none => simp [ho] at hk
    | some d =>
      refine ⟨d, rfl, ?_⟩
      unfold ownX at ho
      rw [he] at ho
      cases hd : o.dst with
      | none => simp [hd] at ho
      | some d' =>
        simp only [hd] at ho
        cases hc : esc.contains d' with
        | true => simp only [hc, cond_true] at ho; cases ho
        | false => simp only [hc, cond_false] at ho; cases ho; exact ⟨rfl, hc, .inl ⟨e, he⟩⟩
  · rename_i e x he
    cases ho : ownX esc o with
    | none => simp [ho] at hk
    | some d =>
      refine ⟨d, rfl, ?_⟩
      unfold ownX at ho
      rw [he] at ho
      cases hd : o.dst with
      | none => simp [hd] at ho
      | some d' =>
        simp only [hd] at ho
        cases hc : esc.contains d' with
        | true => simp only [hc, cond_true] at ho; cases ho
        | false => simp only [hc, cond_false] at ho; cases ho; exact ⟨rfl, hc, .inr ⟨e, x, he⟩⟩
  · cases hk
  · cases hk
  · cases hk
  · cases hk
  · cases hk
  · cases hk
  · cases h : isEffOp P o.op <;> rw [h] at hk <;> cases hk

theorem z_iff {d : Nat} (hk : kindX P esc o = 1) (hd : o.dst = some d) (hg : o.guard = none) : gX P C esc g Q o K a s ↔ ∃ c, zX P o a c ∧ K (ownA a d c) s := by
  obtain ⟨d', _, hd', hesc, hop⟩ := kind1 hk
  rw [hd] at hd'; cases hd'
  unfold gX
  rw [hg]
  simp only
  unfold opX zX
  rcases hop with ⟨e, he⟩ | ⟨e, x, he⟩
  · simp only [he, hd, allocX, hesc, cond_false]
    cases hz : zeroT P e with
    | none => simp
    | some z =>
      constructor
      · intro h; exact ⟨_, ⟨z, rfl, rfl⟩, h⟩
      · rintro ⟨c, ⟨z', hz', rfl⟩, h⟩; cases hz'; exact h
  · simp only [he, hd, allocX, hesc, cond_false]
    cases hn : noTup (a.ev x) with
    | false => simp
    | true =>
      simp only [cond_true]
      constructor
      · intro h; exact ⟨_, ⟨trivial, rfl⟩, h⟩
      · rintro ⟨c, ⟨_, rfl⟩, h⟩; exact h

theorem zX_congr {a a' : A} {c : List Value} (ht : ∀ t, uses g o t = true → a'.t t = a.t t) (h : zX P o a c) : zX P o a' c := by
  unfold zX at h ⊢
  split at h
  · exact h
  · rename_i e x he
    have hx : a'.ev x = a.ev x := ev_congr fun t hut => ht t (by
      unfold uses
      rw [Bool.or_eq_true]
      left
      rw [List.any_eq_true]
      exact ⟨x, by rw [he]; simp [Op.operands], hut⟩)
    rw [hx]
    exact h
  · exact h.elim

variable {z : Oper} {d : Nat}

theorem ev_own {x : Operand} {c : List Value} (h : usesB x d = false) : (ownA a d c).ev x = a.ev x :=
  ev_congr fun t ht => ownA_t a d c (by rintro rfl; rw [ht] at h; cases h)

/-- A quiet one, or a load of another variable, ahead of a new variable. -/
theorem swap_qz (ops : Array Oper) (k : Nat) (hkq : ops[k]? = some q) (hi : indep g q z = true) (hq : kindX P esc q = 0) (hz : kindX P esc z = 1) (hd : z.dst = some d) (hg : z.guard = none)
    (h : gX P C esc g Q q (fun a s => (isLoad q = true → apartX ops k d a) ∧ gX P C esc g Q z K a s) a s) (hself : ∀ t, q.dst = some t → uses g q t = false) :
    gX P C esc g Q z (gX P C esc g Q q K) a s := by
  obtain ⟨h1, h2, h3⟩ := indep_spec hi
  obtain ⟨v, hv, hap, h⟩ := (gquiet_iff hq).1 h
  obtain ⟨c, hc, h⟩ := (z_iff hz hd hg).1 h
  have hne : q.dst ≠ some d := fun e => h2 d e hd
  have hud : uses g q d = false := h3 d hd
  refine (z_iff hz hd hg).2 ⟨c, zX_congr (g := g) (fun t ht => (t_put_ne fun e => by rw [h1 t e] at ht; cases ht).symm) hc, (gquiet_iff hq).2 ⟨v, ?_, by rw [ownA_put a hne]; exact h⟩⟩
  cases hl : isLoad q with
  | false => exact gyX_congr (fun t ht => ownA_t a d c (by rintro rfl; rw [hud] at ht; cases ht)) (.inl hl) hv
  | true =>
    have hap := hap hl
    unfold apartX at hap
    rw [hkq] at hap
    obtain ⟨dst, op, type, pos, after, guard⟩ := q
    simp only [isLoad] at hl
    split at hap
    · rename_i _ t x _ _ _ e
      cases e
      have hx : ((a.put dst v).ev x) = a.ev x := ev_put a fun u hu => by
        have := uses_op (hself u hu)
        simpa [Op.operands] using this
      have hxd : (ownA a d c).ev x = a.ev x := ev_own (by simpa [Op.operands] using uses_op hud)
      rw [hx] at hap
      simp only [gyX, yX] at hv ⊢
      rw [hxd]
      unfold loadX at hv ⊢
      split at hv
      · exact hv
      · rename_i v' off e he
        simp only [he] at hap
        rw [ownA_l a d c (fun hh => by rw [hh] at hap; simp at hap)]
        exact hv
      · exact hv.elim
    · exact hap.elim

/-- Two new variables. -/
theorem swap_zz {z' : Oper} {d' : Nat} (hi : indep g z' z = true) (hz' : kindX P esc z' = 1) (hz : kindX P esc z = 1) (hd' : z'.dst = some d') (hd : z.dst = some d) (hg' : z'.guard = none) (hg : z.guard = none)
    (h : gX P C esc g Q z' (gX P C esc g Q z K) a s) : gX P C esc g Q z (gX P C esc g Q z' K) a s := by
  obtain ⟨h1, h2, h3⟩ := indep_spec hi
  obtain ⟨c', hc', h⟩ := (z_iff hz' hd' hg').1 h
  obtain ⟨c, hc, h⟩ := (z_iff hz hd hg).1 h
  have hne : d' ≠ d := fun e => h2 d' hd' (by rw [hd, e])
  refine (z_iff hz hd hg).2 ⟨c, zX_congr (g := g) (fun t ht => (ownA_t a d' c' (by rintro rfl; rw [h1 _ hd'] at ht; cases ht)).symm) hc,
    (z_iff hz' hd' hg').2 ⟨c', zX_congr (g := g) (fun t ht => ownA_t a d c (by rintro rfl; rw [h3 _ hd] at ht; cases ht)) hc', ?_⟩⟩
  rw [ownA_own a hne.symm]
  exact h

/-- A call ahead of a new variable. -/
theorem swap_ez (hC : MonoQ C Q) {e : Oper} (hi : indep g e z = true) (hcall : (∃ f args tys, e.op = .call { callee := .value (.func f), args, argTypes := tys }) ∨ isEffOp P e.op = true) (hz : kindX P esc z = 1) (hd : z.dst = some d) (hg : z.guard = none)
    (hal : ∃ ty zv, z.op = .alloc ty ∧ zeroT P ty = some zv)
    (h : gX P C esc g Q e (gX P C esc g Q z K) a s) : gX P C esc g Q z (gX P C esc g Q e K) a s := by
  obtain ⟨h1, h2, h3⟩ := indep_spec hi
  obtain ⟨ty, zv, hop, hzv⟩ := hal
  have hud : uses g e d = false := h3 d hd
  have hne : e.dst ≠ some d := fun e' => h2 d e' hd
  have hzX : ∀ (a : A) c, zX P z a c ↔ c = zv.cells.toList := by
    intro a c
    simp only [zX, hop]
    exact ⟨fun ⟨z', hz', h⟩ => by rw [hzv] at hz'; cases hz'; exact h, fun h => ⟨zv, hzv, h⟩⟩
  refine (z_iff hz hd hg).2 ⟨_, (hzX a _).2 rfl, ?_⟩
  have hzk : ∀ (a : A) s, gX P C esc g Q z K a s → K (ownA a d zv.cells.toList) s := fun a s h => by
    obtain ⟨c, hc, h⟩ := (z_iff hz hd hg).1 h
    rw [(hzX a c).1 hc] at h
    exact h
  have hopX : opX P C esc e Q (gX P C esc g Q z K) a s → opX P C esc e Q K (ownA a d zv.cells.toList) s := by
    intro h
    rcases hcall with ⟨f, args, tys, hcall⟩ | heff
    rotate_left
    · rw [opX_eff heff] at h ⊢
      have hops : ∀ x ∈ e.op.operands, (ownA a d zv.cells.toList).ev x = a.ev x := fun x hx => ev_own (by
        have := uses_op hud
        rw [List.any_eq_false] at this
        have := this x (by simpa using hx)
        simpa using this)
      rw [effX_congr e.op hops]
      refine effX_mono ?_ h
      intro v s' hv
      rw [ownA_put a hne]
      exact hzk _ _ hv
    unfold opX at h ⊢
    rw [hcall] at h ⊢
    simp only at h ⊢
    have hargs : args.toList.map (ownA a d zv.cells.toList).ev = args.toList.map a.ev := List.map_congr_left fun x hx => ev_own (by
      have := uses_op hud
      rw [List.any_eq_false] at this
      have := this x (by rw [hcall]; simp [Op.operands, Call.operands]; exact .inr (by simpa using hx))
      simpa using this)
    rw [hargs]
    refine hC.1 _ _ _ _ _ ?_ h
    intro r s' hr
    cases r with
    | ret v => simp only at hr ⊢; rw [ownA_put a hne]; exact hzk _ _ hr
    | pan v => exact hC.2 v a _ s' rfl hr
  unfold gX at h ⊢
  split at h
  · exact hopX h
  · rename_i j want hgd
    obtain ⟨b, k1, k2, k3⟩ := h
    refine ⟨b, ?_, fun e => hopX (k2 e), fun e => by rw [ownA_put a hne]; exact hzk _ _ (k3 e)⟩
    rw [← k1]
    refine congrArg gB (bind_map_eq fun u hu => ownA_t a d _ ?_)
    rintro rfl
    simp [uses, hgd, hu] at hud

def isBuildB (o : Oper) : Bool := match o.op with | .buildSlice _ _ _ => true | _ => false

/-- A slice that is written out, ahead of a quiet one that looks at no memory. -/
theorem swap_bq {e : Oper} (hi : indep g e q = true) (hb : isBuildB e = true) (hq : kindX P esc q = 0) (hl : isLoad q = false) (h : gX P C esc g Q e (gX P C esc g Q q K) a s) : gX P C esc g Q q (gX P C esc g Q e K) a s := by
  obtain ⟨h1, h2, h3⟩ := indep_spec hi
  -- what the slice comes to
  have key : ∀ (K1 : A → St → Prop) (a : A) (s : St), gX P C esc g Q e K1 a s → ∃ u s', K1 (a.put e.dst u) s' ∧ ∀ (K2 : A → St → Prop) (a' : A), (∀ t, uses g e t = true → a'.t t = a.t t) → K2 (a'.put e.dst u) s' → gX P C esc g Q e K2 a' s := by
    intro K1 a s h
    have hbop : opX P C esc e Q K1 a s → ∃ u s', K1 (a.put e.dst u) s' ∧ ∀ (K2 : A → St → Prop) (a' : A), (∀ t, uses g e t = true → a'.t t = a.t t) → K2 (a'.put e.dst u) s' → opX P C esc e Q K2 a' s := by
      intro h
      unfold isBuildB at hb
      split at hb
      · rename_i t n parts he
        have heff : isEffOp P e.op = true := by rw [he]; rfl
        rw [opX_eff heff] at h
        have hops : ∀ a' : A, (∀ t, uses g e t = true → a'.t t = a.t t) → ∀ x ∈ e.op.operands, a'.ev x = a.ev x := fun a' ht x hx => ev_congr fun t hut => ht t (by
          unfold uses
          rw [Bool.or_eq_true]
          left
          rw [List.any_eq_true]
          exact ⟨x, by simpa using hx, hut⟩)
        have hex : ∃ u s', K1 (a.put e.dst u) s' ∧ ∀ (K3 : Value → St → Prop), K3 u s' → effX P e.op a.ev s K3 := by
          rw [he] at h ⊢
          unfold effX at h
          simp only at h
          cases h4 : elemT P t with
          | none => simp [h4] at h
          | some el =>
            simp only [h4] at h
            cases h5 : zeroT P el with
            | none => simp [h5] at h
            | some z =>
              simp only [h5] at h
              split at h
              · rename_i c hc
                refine ⟨_, _, h, fun K3 hk => ?_⟩
                unfold effX
                simp only [h4, h5, hc]
                exact hk
              · exact h.elim
        obtain ⟨u, s', hk, hall⟩ := hex
        refine ⟨u, s', hk, fun K2 a' ht hk2 => ?_⟩
        rw [opX_eff heff, effX_congr e.op (hops a' ht)]
        exact hall _ hk2
      · cases hb
    unfold gX at h
    split at h
    · rename_i hg
      obtain ⟨u, s', hk, hall⟩ := hbop h
      refine ⟨u, s', hk, fun K2 a' ht hk2 => ?_⟩
      unfold gX
      rw [hg]
      exact hall K2 a' ht hk2
    · rename_i j want hg
      obtain ⟨b, k1, k2, k3⟩ := h
      have hgd : ∀ a' : A, (∀ t, uses g e t = true → a'.t t = a.t t) → gB ((g j).map a'.t) = some b := fun a' ht => by
        rw [← k1]
        exact congrArg gB (bind_map_eq fun u hu => ht u (by unfold uses; simp [hg, hu]))
      by_cases hbw : b = some want
      · obtain ⟨u, s', hk, hall⟩ := hbop (k2 hbw)
        refine ⟨u, s', hk, fun K2 a' ht hk2 => ?_⟩
        unfold gX
        rw [hg]
        exact ⟨b, hgd a' ht, fun _ => hall K2 a' ht hk2, fun hne => absurd hbw hne⟩
      · refine ⟨undef, s, k3 hbw, fun K2 a' ht hk2 => ?_⟩
        unfold gX
        rw [hg]
        exact ⟨b, hgd a' ht, fun e => absurd e hbw, fun _ => hk2⟩
  obtain ⟨u, s', hk, hall⟩ := key _ a s h
  obtain ⟨v, hv, hk⟩ := (gquiet_iff hq).1 hk
  refine (gquiet_iff hq).2 ⟨v, gyX_congr (fun t ht => (t_put_ne fun e' => ?_).symm) (.inl hl) hv, ?_⟩
  · rw [h1 t e'] at ht; cases ht
  · refine hall _ _ (fun t ht => t_put_ne fun e' => ?_) ?_
    · rw [h3 t e'] at ht; cases ht
    · rw [put_comm' _ (fun t ht e' => h2 t e' ht)]
      exact hk

/-- A load comes to the same beside a new variable that it is not of. -/
theorem stab_own {ops : Array Oper} {k : Nat} {c : List Value} (hkq : ops[k]? = some q) (hu : uses g q d = false) (hne : q.dst ≠ some d) (hap : apartX ops k d a) (h : stabX P ops k a s) : stabX P ops k (ownA a d c) s := by
  unfold stabX at h ⊢
  unfold apartX at hap
  rw [hkq] at h hap ⊢
  obtain ⟨dst, op, type, pos, after, guard⟩ := q
  split at h
  · rename_i d' t x _ _ _ e
    cases e
    simp only at hap ⊢
    have hxd : (ownA a d c).ev x = a.ev x := ev_own (by simpa [Op.operands] using uses_op hu)
    have hdd : (ownA a d c).t d' = a.t d' := ownA_t a d c (fun e => hne (by rw [e]))
    rw [hxd, hdd]
    unfold loadX at h ⊢
    split at h
    · exact h
    · rename_i v' off e he
      simp only [he] at hap
      rw [ownA_l a d c (fun hh => by rw [hh] at hap; simp at hap)]
      exact h
    · exact h.elim
  · exact h.elim
end
end Go.Proofs.Ytbcjgolkcfdnfaa.Sim
