import Derived.Test.YtbcjgolkcfdnfaaSimI
/- Sim, tenth text: operations whose order is open come to the same in each of the orders. No condition. -/
namespace Go.Proofs.Ytbcjgolkcfdnfaa.Sim
open Go

abbrev CT := FuncId → List Value → St → (Rt → St → Prop) → Prop
def Mono (C : CT) : Prop := ∀ f args s (R R' : Rt → St → Prop), (∀ r s', R r s' → R' r s') → C f args s R → C f args s R'
/-- And what a panic leaves is not asked of the slots. -/
def MonoQ (C : CT) (Q : Ex → A → St → Prop) : Prop := Mono C ∧ ∀ v (a a' : A) s, a.d = a'.d → Q (.pan v) a s → Q (.pan v) a' s
theorem calls_mono (P : Program) : Mono (CallsX P) := fun _ _ _ _ _ h hc => hc.mono h

theorem A.ext' {a b : A} (h1 : ∀ i, a.t i = b.t i) (h2 : ∀ i, a.l i = b.l i) (h3 : a.d = b.d) : a = b := by
  cases a; cases b
  simp only at h1 h2 h3
  rw [funext h1, funext h2, h3]

theorem put_comm (a : A) {d e : Tmp} (h : d ≠ e) (v u : Value) : (a.put (some d) v).put (some e) u = (a.put (some e) u).put (some d) v := by
  refine A.ext' (fun i => ?_) (fun _ => rfl) rfl
  rw [t_put, t_put, t_put, t_put]
  by_cases h1 : i = e
  · rw [if_pos h1, if_neg (fun h2 => h (h2.symm.trans h1)), if_pos h1]
  · rw [if_neg h1, if_neg h1]
theorem put_comm' (a : A) {d e : Option Tmp} (h : ∀ t, d = some t → e ≠ some t) (v u : Value) : (a.put d v).put e u = (a.put e u).put d v := by
  cases d with
  | none => rfl
  | some d => cases e with
    | none => rfl
    | some e => exact put_comm a (fun hh => h d rfl (by rw [hh])) v u

def usesB (x : Operand) (t : Tmp) : Bool := match x with | .tmp u => Nat.beq u t | _ => false
/-- Does an operation look at a slot? -/
def uses (g : Nat → Option Tmp) (o : Oper) (t : Tmp) : Bool :=
  o.op.operands.toList.any (usesB · t) || (match o.guard with | some (j, _) => (match g j with | some u => Nat.beq u t | none => false) | none => false)

theorem ev_put (a : A) {x : Operand} {d : Option Tmp} {v : Value} (h : ∀ t, d = some t → usesB x t = false) : (a.put d v).ev x = a.ev x := by
  cases d with
  | none => rfl
  | some d =>
    cases x with
    | tmp u =>
      simp only [A.ev, t_put]
      rw [if_neg]
      rintro rfl
      have := h u rfl
      simp [usesB] at this
    | _ => rfl

section
variable {P : Program} {C : CT} {esc : List Nat} {g : Nat → Option Tmp} {Q : Ex → A → St → Prop} {K K' : A → St → Prop} {a : A} {s : St} {o : Oper}

theorem map_congr_ev {ev ev' : Operand → Value} {l : List Operand} (h : ∀ x ∈ l, ev x = ev' x) : l.map ev = l.map ev' := List.map_congr_left h
theorem amap_congr_ev {ev ev' : Operand → Value} {l : Array Operand} (h : ∀ x ∈ l, ev x = ev' x) : l.map ev = l.map ev' := by
  apply Array.ext'
  rw [Array.toList_map, Array.toList_map]
  exact List.map_congr_left fun x hx => h x (by simpa using hx)
theorem parts_congr {ev ev' : Operand → Value} {l : Array (Nat × Operand)} (h : ∀ x ∈ l, ev x.2 = ev' x.2) : l.toList.map (fun x => (x.1, ev x.2)) = l.toList.map (fun x => (x.1, ev' x.2)) :=
  List.map_congr_left fun x hx => by rw [h x (by simpa using hx)]

theorem pureX_congr {ev ev' : Operand → Value} (op : Op) (h : ∀ x ∈ op.operands, ev x = ev' x) : pureX P op ev = pureX P op ev' := by
  unfold pureX
  split <;> simp only [Op.operands] at h
  · rw [h _ (by simp)]
  · rw [h _ (by simp)]
  · rw [h _ (by simp), h _ (by simp), h _ (by simp)]
  · rw [h _ (by simp), h _ (by simp)]
  · rw [h _ (by simp)]
  · rw [h _ (by simp)]
  · rw [h _ (by simp)]
  · rw [h _ (by simp)]
  · rw [h _ (by simp)]
  · rw [parts_congr fun x hx => h x.2 (by simp; exact ⟨x.1, hx⟩)]
  · rw [h _ (by simp)]
  · rename_i first captured
    rw [amap_congr_ev (l := first) fun x hx => h x (by simp [hx]), amap_congr_ev (l := captured) fun x hx => h x (by simp [hx])]
  · rename_i args argTypes
    split
    · rename_i x y hx
      have hargs : args = #[x, y] := by apply Array.toList_inj.1; simpa using hx
      rw [h x (by simp [Call.operands, hargs]), h y (by simp [Call.operands, hargs])]
    · rfl
  · rename_i args argTypes
    split
    · rename_i x y hx
      have hargs : args = #[x, y] := by apply Array.toList_inj.1; simpa using hx
      rw [h x (by simp [Call.operands, hargs]), h y (by simp [Call.operands, hargs])]
    · rfl
  · rw [h _ (by simp)]
  · rw [h _ (by simp)]
  · rename_i args argTypes
    split
    · rename_i x t hx ht
      have hargs : args = #[x] := by apply Array.toList_inj.1; simpa using hx
      rw [h x (by simp [Call.operands, hargs])]
    · rfl
  · rfl

theorem boundX_congr {ev ev' : Operand → Value} {d : Int} {x : Option Operand} (h : ∀ y, x = some y → ev y = ev' y) : boundX ev d x = boundX ev' d x := by
  cases x with
  | none => rfl
  | some y => simp only [boundX, h y rfl]

theorem sideX_congr {ev ev' : Operand → Value} (op : Op) (h : ∀ x ∈ op.operands, ev x = ev' x) : sideX P op ev = sideX P op ev' := by
  unfold sideX
  split <;> simp only [Op.operands] at h
  · rw [h _ (by simp), h _ (by simp)]
  · rw [h _ (by simp), h _ (by simp)]
  · rw [h _ (by simp), h _ (by simp)]
  · rename_i t x lo hi
    have h1 := h x (by simp)
    have h2 : ∀ d, boundX ev d lo = boundX ev' d lo := fun d => boundX_congr fun y hy => h y (by simp [hy])
    have h3 : ∀ d, boundX ev d hi = boundX ev' d hi := fun d => boundX_congr fun y hy => h y (by simp [hy])
    simp only [h1, h2, h3]
  · rfl

theorem effX_congr {ev ev' : Operand → Value} {s : St} {K : Value → St → Prop} (op : Op) (h : ∀ x ∈ op.operands, ev x = ev' x) : effX P op ev s K = effX P op ev' s K := by
  unfold effX
  split <;> simp only [Op.operands] at h
  · rw [parts_congr fun x hx => h x.2 (by simp; exact ⟨x.1, hx⟩)]
  · rename_i args argTypes
    split
    · rename_i x y t u hx ht
      have hargs : args = #[x, y] := by apply Array.toList_inj.1; simpa using hx
      rw [h x (by simp [Call.operands, hargs]), h y (by simp [Call.operands, hargs])]
    · rfl
  · rename_i args argTypes
    split
    · rename_i x y t u hx ht
      have hargs : args = #[x, y] := by apply Array.toList_inj.1; simpa using hx
      rw [h x (by simp [Call.operands, hargs]), h y (by simp [Call.operands, hargs])]
    · rfl
  · rename_i args argTypes
    split
    · rename_i x t hx ht
      have hargs : args = #[x] := by apply Array.toList_inj.1; simpa using hx
      rw [h x (by simp [Call.operands, hargs])]
    · rfl
  · rename_i args argTypes
    split
    · rename_i x y t u hx ht
      have hargs : args = #[x, y] := by apply Array.toList_inj.1; simpa using hx
      rw [h x (by simp [Call.operands, hargs]), h y (by simp [Call.operands, hargs])]
    · rfl
  · rw [h _ (by simp), h _ (by simp)]
  · rename_i t x lo hi
    have h1 := h x (by simp)
    have h2 : ∀ d, boundX ev d lo = boundX ev' d lo := fun d => boundX_congr fun y hy => h y (by simp [hy])
    have h3 : ∀ d, boundX ev d hi = boundX ev' d hi := fun d => boundX_congr fun y hy => h y (by simp [hy])
    simp only [h1, h2, h3]
  · rw [h _ (by simp)]
  · rfl
  · rw [h _ (by simp), h _ (by simp)]
  · rw [h _ (by simp), h _ (by simp), h _ (by simp)]
  · rw [h _ (by simp)]
  · rw [h _ (by simp)]
  · rfl

theorem appX_mono {s : St} {sz n : Nat} {news : List Value} {x : Value} {K K' : Value → St → Prop} (hm : ∀ v s', K v s' → K' v s') (h : appX s sz n news x K) : appX s sz n news x K' := by
  unfold appX at h ⊢
  split at h
  · exact ⟨fun hn => hm _ _ (h.1 hn), fun hn => hm _ _ (h.2 hn)⟩
  · refine ⟨fun hn => hm _ _ (h.1 hn), fun hn => ?_⟩
    obtain ⟨h1, c, f, kin, h2, h3, h4, h5⟩ := h.2 hn
    exact ⟨h1, c, f, kin, h2, h3, fun he => hm _ _ (h4 he), fun he => hm _ _ (h5 he)⟩
  · exact h

theorem putX_mono {s : St} {x : Value} {cs : List Value} {K K' : St → Prop} (hm : ∀ s', K s' → K' s') (h : putX s x cs K) : putX s x cs K' := by
  unfold putX at h ⊢
  split at h
  · exact hm _ h
  · obtain ⟨c, c', h1, h2, h3⟩ := h
    exact ⟨c, c', h1, h2, hm _ h3⟩
  · exact h

theorem rangeK_mono {s : St} {x : Value} {K K' : Value → St → Prop} (hm : ∀ v s', K v s' → K' v s') (h : rangeK s x K) : rangeK s x K' := by
  unfold rangeK at h ⊢
  split at h
  · exact hm _ _ h
  · obtain ⟨es, c, h1, h2⟩ := h
    exact ⟨es, c, h1, hm _ _ h2⟩
  · exact h

theorem nextK_mono {s : St} {j : Nat} {mp : Option Nat} {since last : Nat} {seen : List Nat} {K K' : Value → St → Prop} (hm : ∀ v s', K v s' → K' v s') (h : nextK s j mp since seen last K) : nextK s j mp since seen last K' := by
  unfold nextK at h ⊢
  split at h
  · exact hm _ _ h
  · obtain ⟨es, c, h1, h2, h3, h4, h5⟩ := h
    exact ⟨es, c, h1, h2, h3, fun e => hm _ _ (h4 e), fun e he hs => hm _ _ (h5 e he hs)⟩

theorem effX_mono {ev : Operand → Value} {op : Op} {s : St} {K K' : Value → St → Prop} (hm : ∀ v s', K v s' → K' v s') (h : effX P op ev s K) : effX P op ev s K' := by
  unfold effX at h ⊢
  split at h
  · rename_i t n parts
    cases he : elemT P t with
    | none => simp [he] at h
    | some e =>
      simp only [he] at h ⊢
      cases hz : zeroT P e with
      | none => simp [hz] at h
      | some z =>
        simp only [hz] at h ⊢
        split at h
        · exact hm _ _ h
        · exact h.elim
  · split at h
    · rename_i x y t u hx ht
      cases he : elemT P t with
      | none => simp [he] at h
      | some e =>
        simp only [he] at h ⊢
        obtain ⟨news, n, h1, h2, h3⟩ := h
        exact ⟨news, n, h1, h2, appX_mono hm h3⟩
    · exact h.elim
  · split at h
    · rename_i x y t u hx ht
      cases he : elemT P t with
      | none => simp [he] at h
      | some e =>
        simp only [he] at h ⊢
        obtain ⟨news, n, h1, h2, h3⟩ := h
        exact ⟨news, n, h1, h2, putX_mono (fun s' => hm _ s') h3⟩
    · exact h.elim
  · split at h
    · rename_i x t hx ht
      cases he : elemT P t with
      | none => simp [he] at h
      | some e =>
        simp only [he] at h ⊢
        cases hz : zeroT P e with
        | none => simp [hz] at h
        | some z =>
          simp only [hz] at h ⊢
          exact ⟨h.1, putX_mono (fun s' => hm _ s') h.2⟩
    · exact h.elim
  · split at h
    · rename_i x k t u hx ht
      cases he : isMapT P t with
      | none => simp [he] at h
      | some e =>
        simp only [he] at h ⊢
        obtain ⟨i, es, c, h1, h2, h3⟩ := h
        exact ⟨i, es, c, h1, h2, hm _ _ h3⟩
    · exact h.elim
  · rename_i t x y
    cases he : elemT P t with
    | none => simp [he] at h
    | some e =>
      simp only [he] at h ⊢
      cases hz : zeroT P e with
      | none => simp [hz] at h
      | some z =>
        simp only [hz] at h ⊢
        split at h
        · exact ⟨h.1, hm _ _ h.2⟩
        · exact h.elim
  · rename_i t x lo hi
    cases he : arrT P t with
    | none => simp [he] at h
    | some e =>
      simp only [he] at h ⊢
      split at h
      · split at h
        · exact ⟨h.1, h.2.1, hm _ _ h.2.2⟩
        · exact h.elim
      · exact h.elim
  · obtain ⟨c, n, b, h1, h2, h3, h4⟩ := h
    exact ⟨c, n, b, h1, h2, h3, hm _ _ h4⟩
  · exact hm _ _ h
  · rename_i t x k ok
    cases he : isMapT P t with
    | none => simp [he] at h
    | some e =>
      simp only [he] at h ⊢
      obtain ⟨es, h1, h2, h3⟩ := h
      refine ⟨es, h1, h2, ?_⟩
      split at h3
      · exact hm _ _ h3
      · cases hz : zeroT P e.2 with
        | none => simp [hz] at h3
        | some z => simp only [hz] at h3 ⊢; exact hm _ _ h3
  · rename_i t x k v
    cases he : isMapT P t with
    | none => simp [he] at h
    | some e =>
      simp only [he] at h ⊢
      obtain ⟨i, es, c, h1, h2, h3⟩ := h
      refine ⟨i, es, c, h1, h2, ?_⟩
      split at h3
      · exact hm _ _ h3
      · exact hm _ _ h3
  · rename_i t x
    cases he : isMapT P t with
    | none => simp [he] at h
    | some e => simp only [he] at h ⊢; exact rangeK_mono hm h
  · split at h
    · obtain ⟨mp, since, seen, last, h1, h2⟩ := h
      exact ⟨mp, since, seen, last, h1, nextK_mono hm h2⟩
    · exact h.elim
  · exact h.elim

/-- What a quiet operation comes to. -/
def yX (P : Program) (o : Oper) (a : A) (s : St) (v : Value) : Prop :=
  match o.op with
  | .load t x => loadX P t (a.ev x) (fun u => u = v) a s
  | op => pureX P op a.ev = some v ∨ pureX P op a.ev = none ∧ ∃ c, sideX P op a.ev = some (c, v) ∧ c

theorem loadX_iff {t : TypeId} {ad : Value} {K : Value → Prop} : loadX P t ad K a s ↔ ∃ v, loadX P t ad (fun u => u = v) a s ∧ K v := by
  unfold loadX
  split
  · constructor
    · rintro ⟨vs, h1, h2⟩; exact ⟨_, ⟨vs, h1, rfl⟩, h2⟩
    · rintro ⟨v, ⟨vs, h1, rfl⟩, h2⟩; exact ⟨vs, h1, h2⟩
  · split
    · rename_i v' c _
      cases Nat.beq _ v'
      · simp
      · simp only [cond_true]
        split
        · constructor
          · intro h; exact ⟨_, rfl, h⟩
          · rintro ⟨v, rfl, h⟩; exact h
        · simp
    · simp
  · simp

theorem quiet_iff (hq : kindX P esc o = 0) : opX P C esc o Q K a s ↔ ∃ v, yX P o a s v ∧ K (a.put o.dst v) s := by
  unfold opX
  unfold kindX at hq
  split at hq
  · split at hq <;> cases hq
  · split at hq <;> cases hq
  · cases hq
  · cases hq
  · cases hq
  · cases hq
  · cases hq
  · cases hq
  · rename_i h1 h2 h3 h4 h5 h6 h7 h8
    split
    · rename_i e; exact absurd e (h1 _)
    · rename_i e; exact absurd e (h2 _ _)
    · rename_i t x e
      simp only [yX, e]
      exact loadX_iff
    · rename_i e; exact absurd e (h3 _ _ _)
    · rename_i e; exact absurd e (h4 _ _ _)
    · rename_i e; exact absurd e (h5 _ _ _)
    · rename_i e; exact absurd e (h6 _ _ _)
    · rename_i e; exact absurd e (h7 _ _ _)
    · rename_i e; exact absurd e (h8 _)
    · rename_i k1 k2 k3 k4 k5 k6 k7 k8 k9
      have hy : ∀ v, yX P o a s v ↔ (pureX P o.op a.ev = some v ∨ pureX P o.op a.ev = none ∧ ∃ c, sideX P o.op a.ev = some (c, v) ∧ c) := by
        intro v
        unfold yX
        split
        · rename_i e; exact absurd e (k3 _ _)
        · rfl
      simp only [hy]
      cases hie : isEffOp P o.op with
      | true => rw [hie] at hq; cases hq
      | false =>
      simp only [cond_false]
      cases hp : pureX P o.op a.ev with
      | some v => simp
      | none =>
        simp only [reduceCtorEq, false_or, true_and]
        cases hs : sideX P o.op a.ev with
        | none => simp
        | some cv =>
          obtain ⟨c, v⟩ := cv
          simp only
          constructor
          · rintro ⟨hc, hk⟩; exact ⟨v, ⟨c, rfl, hc⟩, hk⟩
          · rintro ⟨v', ⟨c', e, hc⟩, hk⟩; cases e; exact ⟨hc, hk⟩


theorem bind_map_eq {α β : Type} {x : Option α} {f f' : α → β} (h : ∀ u, x = some u → f u = f' u) : x.map f = x.map f' := by
  cases x with
  | none => rfl
  | some u => simp [h u rfl]

/-- What an operation asks that is none of the others. -/
def defX (P : Program) (op : Op) (ev : Operand → Value) (s : St) (K : Value → St → Prop) : Prop :=
  cond (isEffOp P op) (effX P op ev s K)
    (match pureX P op ev with
    | some v => K v s
    | none => match sideX P op ev with
      | some (c, v) => c ∧ K v s
      | none => False)

theorem defX_mono {op : Op} {ev : Operand → Value} {s : St} {K K' : Value → St → Prop} (hm : ∀ v s', K v s' → K' v s') (h : defX P op ev s K) : defX P op ev s K' := by
  unfold defX at h ⊢
  cases hie : isEffOp P op with
  | true =>
    rw [hie] at h
    exact effX_mono hm h
  | false =>
    rw [hie] at h
    simp only [cond_false] at h ⊢
    cases hp : pureX P op ev with
    | some u => rw [hp] at h; exact hm _ _ h
    | none =>
      rw [hp] at h
      simp only at h ⊢
      cases hs : sideX P op ev with
      | none => rw [hs] at h; exact h.elim
      | some cv => obtain ⟨c, u⟩ := cv; rw [hs] at h; exact ⟨h.1, hm _ _ h.2⟩

theorem defX_congr {op : Op} {ev ev' : Operand → Value} {s : St} {K : Value → St → Prop} (hev : ∀ x ∈ op.operands, ev x = ev' x) : defX P op ev s K = defX P op ev' s K := by
  unfold defX
  rw [pureX_congr op hev, sideX_congr op hev, effX_congr op hev]

theorem defX_put {op : Op} {ev ev' : Operand → Value} {s : St} {K K' : Value → St → Prop} (hev : ∀ x ∈ op.operands, ev x = ev' x) (hm : ∀ v s', K v s' → K' v s') (h : defX P op ev s K) : defX P op ev' s K' := by
  rw [← defX_congr hev]
  exact defX_mono hm h

/-- An operation hangs on what it looks at alone. -/
theorem opX_put (hC : MonoQ C Q) {d : Option Tmp} {v : Value} (hu : ∀ t, d = some t → o.op.operands.toList.any (usesB · t) = false) (hd : ∀ t, d = some t → o.dst ≠ some t)
    (h : opX P C esc o Q K (a.put d v) s) (hk : ∀ a' s', K (a'.put d v) s' → K' a' s') : opX P C esc o Q K' a s := by
  have hev : ∀ x ∈ o.op.operands, (a.put d v).ev x = a.ev x := fun x hx => ev_put a fun t ht => by
    have := hu t ht
    rw [List.any_eq_false] at this
    simpa using this x (by simpa using hx)
  have hver : ∀ u, (a.put d v).ver u = a.ver u := fun u => by cases d <;> rfl
  have hloc : ∀ t u c, (a.put d v).loc t u c = (a.loc t u c).put d v := fun t u c => by cases d <;> rfl
  have hl : (a.put d v).l = a.l := by cases d <;> rfl
  have hbare : (a.put d v).d = a.d := by cases d <;> rfl
  have hput : ∀ (b : A) u, (b.put d v).put o.dst u = (b.put o.dst u).put d v := fun b u => put_comm' b hd v u
  have halloc : ∀ c, allocX esc o.dst c K (a.put d v) s → allocX esc o.dst c K' a s := by
    intro c hc
    unfold allocX at hc ⊢
    cases hdst : o.dst with
    | none => rw [hdst] at hc; exact hc
    | some t =>
      rw [hdst] at hc hput
      simp only at hc ⊢
      cases hesc : esc.contains t with
      | true => simp only [hesc, cond_true] at hc ⊢; rw [hput] at hc; exact hk _ _ hc
      | false => simp only [hesc, cond_false] at hc ⊢; rw [hver, hloc, hput] at hc; exact hk _ _ hc
  have hloadl : ∀ t ad (K1 K2 : Value → Prop), (∀ u, K1 u → K2 u) → loadX P t ad K1 (a.put d v) s → loadX P t ad K2 a s := by
    intro t ad K1 K2 h12 hc
    unfold loadX at hc ⊢
    rw [hl] at hc
    split at hc
    · obtain ⟨vs, h1, h2⟩ := hc
      exact ⟨vs, h1, h12 _ h2⟩
    · split at hc
      · rename_i u _ _ _ v' _ _
        cases hb : Nat.beq u v' with
        | false => simp [hb] at hc
        | true =>
          simp only [hb, cond_true] at hc ⊢
          split at hc
          · exact h12 _ hc
          · exact hc.elim
      · exact hc.elim
    · exact hc.elim
  have hcall : ∀ (r : Rt) s', (match (motive := Rt → Prop) r with | .ret u => K ((a.put d v).put o.dst u) s' | .pan u => Q (.pan u) (a.put d v) s') → (match (motive := Rt → Prop) r with | .ret u => K' (a.put o.dst u) s' | .pan u => Q (.pan u) a s') := by
    intro r s' hr
    cases r with
    | ret u => simp only at hr ⊢; rw [hput] at hr; exact hk _ _ hr
    | pan u => exact hC.2 _ _ _ _ hbare hr
  have hlate : ∀ (x : Df), ({ a.put d v with d := x :: (a.put d v).d } : A) = ({ a with d := x :: a.d } : A).put d v := fun x => by cases d <;> rfl
  unfold opX at h ⊢
  split at h
  · rename_i e he
    cases hz : zeroT P e with
    | none => simp [hz] at h
    | some z => simp only [hz] at h; exact halloc _ h
  · rename_i e x he
    rw [hev x (by rw [he]; simp [Op.operands])] at h
    cases hn : noTup (a.ev x) with
    | false => simp [hn] at h
    | true => simp only [hn, cond_true] at h ⊢; exact halloc _ h
  · rename_i t x he
    rw [hev x (by rw [he]; simp [Op.operands])] at h
    exact hloadl _ _ _ _ (fun u hu => hk _ _ (by rw [← hput]; exact hu)) h
  · rename_i t x y he
    rw [hev x (by rw [he]; simp [Op.operands]), hev y (by rw [he]; simp [Op.operands])] at h
    unfold storeX at h ⊢
    cases hc : (Nat.beq (a.ev y).cells.size (sizeT P t) && noTup (a.ev y)) with
    | false => simp [hc] at h
    | true =>
    simp only [hc, cond_true] at h ⊢
    split at h
    · obtain ⟨c, c', h1, h2, h3⟩ := h
      rw [hput] at h3
      exact ⟨c, c', h1, h2, hk _ _ h3⟩
    · rw [hl] at h
      split at h
      · rename_i u _ _ _ _ v' _ _
        cases hb : Nat.beq u v' with
        | false => simp [hb] at h
        | true =>
          simp only [hb, cond_true] at h ⊢
          split at h
          · rw [hloc, hput] at h
            exact hk _ _ h
          · exact h.elim
      · exact h.elim
    · exact h.elim
  · rename_i f args tys he
    have hargs : args.toList.map (a.put d v).ev = args.toList.map a.ev := List.map_congr_left fun x hx => hev x (by rw [he]; simp [Op.operands, Call.operands]; exact .inr (by simpa using hx))
    rw [hargs] at h
    exact hC.1 _ _ _ _ _ (fun r s' hr => hcall r s' hr) h
  · rename_i t args tys he
    have hargs : args.toList.map (a.put d v).ev = args.toList.map a.ev := List.map_congr_left fun x hx => hev x (by rw [he]; simp [Op.operands, Call.operands]; exact .inr (by simpa using hx))
    have ht : (a.put d v).t t = a.t t := hev (.tmp t) (by rw [he]; simp [Op.operands, Call.operands])
    rw [hargs, ht] at h
    split at h
    · exact ⟨h.1, hC.1 _ _ _ _ _ (fun r s' hr => hcall r s' hr) h.2⟩
    · exact h.elim
  · rename_i f args tys he
    have hargs : args.toList.map (a.put d v).ev = args.toList.map a.ev := List.map_congr_left fun x hx => hev x (by rw [he]; simp [Op.operands, Call.operands]; exact .inr (by simpa using hx))
    rw [hargs] at h
    exact hk _ _ (by rw [← hput, ← hlate]; exact h)
  · rename_i t args tys he
    have hargs : args.toList.map (a.put d v).ev = args.toList.map a.ev := List.map_congr_left fun x hx => hev x (by rw [he]; simp [Op.operands, Call.operands]; exact .inr (by simpa using hx))
    have ht : (a.put d v).t t = a.t t := hev (.tmp t) (by rw [he]; simp [Op.operands, Call.operands])
    rw [hargs, ht] at h
    split at h
    · exact ⟨h.1, hk _ _ (by rw [← hput, ← hlate]; exact h.2)⟩
    · exact h.elim
  · rename_i x he
    rw [hev x (by rw [he]; simp [Op.operands])] at h
    split at h
    · exact hC.2 _ _ _ _ hbare h
    · exact h
  · exact defX_put hev (fun u s' hu => hk _ _ (by rw [← hput]; exact hu)) h

/-- An operation that does something, told apart. -/
theorem opX_eff (h : isEffOp P o.op = true) : opX P C esc o Q K a s = effX P o.op a.ev s (fun v s' => K (a.put o.dst v) s') := by
  have hd : opX P C esc o Q K a s = defX P o.op a.ev s (fun v s' => K (a.put o.dst v) s') := by
    unfold opX defX
    split
    all_goals first
      | rfl
      | (rename_i e; rw [e] at h; cases h)
  rw [hd]
  unfold defX
  rw [h]
  rfl
end
end Go.Proofs.Ytbcjgolkcfdnfaa.Sim
