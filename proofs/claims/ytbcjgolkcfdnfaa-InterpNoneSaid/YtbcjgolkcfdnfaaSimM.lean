import Derived.Test.YtbcjgolkcfdnfaaSimL
/- Sim, thirteenth text: an operation that can be first is first. No condition. -/
namespace Go.Proofs.Ytbcjgolkcfdnfaa.Sim
open Go

section
variable {P : Program} {C : CT} {esc : List Nat} {Q : Ex → A → St → Prop} {a : A} {s : St} {ops : Array Oper} {c : Nat → List Nat} {lt : Nat → Nat → Bool}

theorem one_some {x : Nat} (h : oneB P esc ops x = true) : ∃ o, ops[x]? = some o := by
  unfold oneB at h
  cases ho : ops[x]? with
  | none => simp [ho] at h
  | some o => exact ⟨o, rfl⟩
theorem one_self {x : Nat} {o : Oper} (ho : ops[x]? = some o) (hk : kindX P esc o = 0) (h : oneB P esc ops x = true) : ∀ t, o.dst = some t → uses (gOf ops) o t = false := by
  unfold oneB at h
  rw [ho] at h
  simp only [hk] at h
  exact self_spec h
theorem one_guard {x : Nat} {o : Oper} (ho : ops[x]? = some o) (hk : kindX P esc o = 1) (h : oneB P esc ops x = true) : o.guard = none := by
  unfold oneB at h
  rw [ho] at h
  simp only [hk] at h
  simpa using h

/-- What must hold behind a load still holds behind an operation that doesn't write its address. -/
theorem obl0_congr {prev : List Nat} {x : Nat} {ox : Oper} {a a' : A} {s s' : St} (hx : ops[x]? = some ox) (hk : kindX P esc ox = 0) (ht : ∀ t, uses (gOf ops) ox t = true → a'.t t = a.t t) (h : oblD P esc ops c prev x ox a s) : oblD P esc ops c prev x ox a' s' :=
  ⟨fun e => by rw [hk] at e; (first | omega | cases e), fun _ k hkc d hd => apart_congr hx ht (h.2 hk k hkc d hd)⟩

/-- A quiet one. -/
theorem move_q (hC : MonoQ C Q) {i : Nat} {oi : Oper} (hi : ops[i]? = some oi) (hk : kindX P esc oi = 0) {K : A → St → Prop} : ∀ (pre prev : List Nat), (∀ x ∈ pre, oneB P esc ops x = true) → (∀ x ∈ pre, pairB P esc ops c lt x i = true ∧ lt x i = false) →
    (∀ k ∈ prev, ∀ q, ops[k]? = some q → isLoad q = true → noOver (gOf ops) q oi = true) →
    ∀ {a : A} {s : St}, drawD P C esc ops Q c prev pre (gX P C esc (gOf ops) Q oi K) a s → gX P C esc (gOf ops) Q oi (drawD P C esc ops Q c prev pre K) a s
  | [], _, _, _, _, _, _, h => h
  | x :: pre, prev, h1, h2, h3, a, s, ⟨ox, hx, h⟩ => by
    obtain ⟨hp, hlt⟩ := h2 x (by simp)
    obtain ⟨hno, hp⟩ := pair_spec hx hi hp
    obtain ⟨hind, hp⟩ := hp hlt
    have hkx : kindX P esc ox = 0 ∨ kindX P esc ox = 2 ∧ isBuildB ox = true ∧ isLoad oi = false := by
      rcases hp with h | h | h | h | h | h | h
      · exact .inl h.1
      · exact .inl h.1
      · exact .inl h.1
      · omega
      · omega
      · omega
      · exact .inr ⟨h.1, h.2.2⟩
    obtain ⟨k1, k2, k3⟩ := indep_spec hind
    have hobl : ∀ {a : A} {v : Value} {s : St}, oblD P esc ops c prev x ox a s → oblD P esc ops c prev x ox (a.put oi.dst v) s := by
      intro a v s h
      rcases hkx with hkx | ⟨hkx, _, _⟩
      · exact obl0_congr hx hkx (fun t ht => t_put_ne fun e => by rw [k3 t e] at ht; cases ht) h
      · refine ⟨fun e k hkc hkp => ?_, fun e => by rw [hkx] at e; cases e⟩
        have hst := h.1 e k hkc hkp
        obtain ⟨q, hq, hl⟩ : ∃ q, ops[k]? = some q ∧ isLoad q = true := by
          unfold stabX at hst
          cases hq : ops[k]? with
          | none => simp [hq] at hst
          | some q =>
            rw [hq] at hst
            refine ⟨q, rfl, ?_⟩
            split at hst
            · rename_i e; cases e; rfl
            · exact hst.elim
        obtain ⟨n1, n2⟩ := noOver_spec (h3 k hkp q hq hl)
        exact stab_put' hq n1 n2 hst
    have h' : gX P C esc (gOf ops) Q ox (gX P C esc (gOf ops) Q oi (fun a s => oblD P esc ops c prev x ox a s ∧ drawD P C esc ops Q c (x :: prev) pre K a s)) a s := by
      refine gX_mono hC h ?_
      rintro a s ⟨hob, hd⟩
      have := move_q hC hi hk pre (x :: prev) (fun y hy => h1 y (by simp [hy])) (fun y hy => h2 y (by simp [hy])) (fun k hk' q hq hl => by
        rcases List.mem_cons.1 hk' with rfl | hk'
        · rw [hx] at hq; cases hq; exact hno hl
        · exact h3 k hk' q hq hl) hd
      obtain ⟨v, hv, hd⟩ := (gquiet_iff hk).1 this
      exact (gquiet_iff hk).2 ⟨v, hv, hobl hob, hd⟩
    have hsw : gX P C esc (gOf ops) Q oi (gX P C esc (gOf ops) Q ox (fun a s => oblD P esc ops c prev x ox a s ∧ drawD P C esc ops Q c (x :: prev) pre K a s)) a s := by
      rcases hkx with hkx | ⟨hkx, hb, hl⟩
      · exact swap_qq hind hkx hk h'
      · exact swap_bq hind hb hk hl h'
    refine gX_mono hC hsw ?_
    intro a s h
    exact ⟨ox, hx, h⟩

/-- One that does something. -/
theorem move_e (hC : MonoQ C Q) {i : Nat} {oi : Oper} (hi : ops[i]? = some oi) (hk : kindX P esc oi = 2) {K : A → St → Prop} : ∀ (pre prev L : List Nat), (∀ x ∈ pre, oneB P esc ops x = true) →
    (∀ x ∈ pre, pairB P esc ops c lt x i = true ∧ lt x i = false ∧ ∀ ox, ops[x]? = some ox → kindX P esc ox ≠ 2) → (∀ k ∈ L, ∀ q, ops[k]? = some q → isLoad q = true → ∀ y ∈ pre, ∀ oy, ops[y]? = some oy → noOver (gOf ops) q oy = true) →
    pre.Pairwise (fun x y => pairB P esc ops c lt x y = true) →
    ∀ {a : A} {s : St}, drawD P C esc ops Q c prev pre (gX P C esc (gOf ops) Q oi (fun a s => (∀ k, k ∈ L ∨ k ∈ pre → ∀ q, ops[k]? = some q → isLoad q = true → stabX P ops k a s) ∧ K a s)) a s →
    gX P C esc (gOf ops) Q oi (fun a s => (∀ k ∈ L, ∀ q, ops[k]? = some q → isLoad q = true → stabX P ops k a s) ∧ drawD P C esc ops Q c prev pre K a s) a s
  | [], _, _, _, _, _, _, _, _, h => gX_mono hC h fun a s ⟨h1, h2⟩ => ⟨fun k hk => h1 k (.inl hk), h2⟩
  | x :: pre, prev, L, h1, h2, h3, h4, a, s, ⟨ox, hx, h⟩ => by
    obtain ⟨hp, hlt, hn2⟩ := h2 x (by simp)
    obtain ⟨_, hp⟩ := pair_spec hx hi hp
    obtain ⟨hind, hp⟩ := hp hlt
    have hkx : kindX P esc ox = 0 := by rcases hp with h | h | h | h | h | h | h <;> first | exact h.1 | exact absurd h.1 (hn2 ox hx) | omega
    obtain ⟨k1, k2, k3⟩ := indep_spec hind
    have hpw := List.pairwise_cons.1 h4
    have h' : gX P C esc (gOf ops) Q ox (gX P C esc (gOf ops) Q oi (fun a s => (isLoad ox = true → stabX P ops x a s) ∧ (∀ k ∈ L, ∀ q, ops[k]? = some q → isLoad q = true → stabX P ops k a s) ∧
        (oblD P esc ops c prev x ox a s ∧ drawD P C esc ops Q c (x :: prev) pre K a s))) a s := by
      refine gX_mono hC h ?_
      rintro a s ⟨hob, hd⟩
      have hd' := drawD_mono (K' := gX P C esc (gOf ops) Q oi (fun a s => (∀ k, k ∈ L ++ [x] ∨ k ∈ pre → ∀ q, ops[k]? = some q → isLoad q = true → stabX P ops k a s) ∧ K a s)) hC
        (fun a s h => gX_mono hC h fun a s ⟨u1, u2⟩ => ⟨fun k hk => u1 k (by simp at hk ⊢; rcases hk with (h | h) | h <;> simp [h]), u2⟩) pre (x :: prev) (x :: prev) (fun _ h => h) hd
      have := move_e hC hi hk pre (x :: prev) (L ++ [x]) (fun y hy => h1 y (by simp [hy])) (fun y hy => h2 y (by simp [hy]))
        (fun k hk q hq hl y hy oy hoy => by
          rcases List.mem_append.1 hk with hk | hk
          · exact h3 k hk q hq hl y (by simp [hy]) oy hoy
          · obtain rfl := List.mem_singleton.1 hk
            exact (pair_spec hq hoy (hpw.1 y hy)).1 hl) hpw.2 hd'
      refine gX_mono hC (gX_keep hC this) ?_
      rintro a' s' ⟨hkeep, hst, hd⟩
      exact ⟨fun hl => hst x (by simp) ox hx hl, fun k hk => hst k (by simp [hk]), obl0_congr hx hkx (fun t ht => hkeep t fun e => by rw [k3 t e] at ht; cases ht) hob, hd⟩
    refine gX_mono hC (swap_qe hC ops x hx hind (one_self hx hkx (h1 x (by simp))) hkx ?_ h') ?_
    · intro a v s hS k hkL q hq hl
      obtain ⟨n1, n2⟩ := noOver_spec (h3 k hkL q hq hl x (by simp) ox hx)
      exact stab_put hq n1 n2 (hS k hkL q hq hl)
    · intro a s h
      exact ⟨h.1, ox, hx, h.2⟩

/-- A new variable of the function's own. -/
theorem move_z (hC : MonoQ C Q) {i d : Nat} {oi : Oper} (hi : ops[i]? = some oi) (hk : kindX P esc oi = 1) (hd : oi.dst = some d) (hg : oi.guard = none) {K : A → St → Prop} : ∀ (pre prev : List Nat), (∀ x ∈ pre, oneB P esc ops x = true) →
    (∀ x ∈ pre, pairB P esc ops c lt x i = true ∧ lt x i = false) → (∀ k ∈ prev, ∀ q, ops[k]? = some q → isLoad q = true → (uses (gOf ops) q d = false ∧ q.dst ≠ some d) ∧ ∀ y ∈ pre, ∀ oy, ops[y]? = some oy → noOver (gOf ops) q oy = true) →
    pre.Pairwise (fun x y => pairB P esc ops c lt x y = true) →
    ∀ {a : A} {s : St}, (∀ k ∈ prev, ∀ q, ops[k]? = some q → isLoad q = true → apartX ops k d a) → drawD P C esc ops Q c prev pre (gX P C esc (gOf ops) Q oi K) a s → gX P C esc (gOf ops) Q oi (drawD P C esc ops Q c prev pre K) a s
  | [], _, _, _, _, _, _, _, _, h => h
  | x :: pre, prev, h1, h2, h3, h4, a, s, hA, ⟨ox, hx, h⟩ => by
    obtain ⟨hp, hlt⟩ := h2 x (by simp)
    obtain ⟨_, hp⟩ := pair_spec hx hi hp
    obtain ⟨hind, hp⟩ := hp hlt
    obtain ⟨k1, k2, k3⟩ := indep_spec hind
    have hpw := List.pairwise_cons.1 h4
    obtain ⟨d', hown, hd', _, _⟩ := kind1 hk
    rw [hd] at hd'; cases hd'
    have hud : uses (gOf ops) ox d = false := k3 d hd
    have hod : ox.dst ≠ some d := fun e => k2 d e hd
    -- behind the first one
    have h' : gX P C esc (gOf ops) Q ox (fun a s => (isLoad ox = true ∧ kindX P esc ox = 0 → apartX ops x d a) ∧ gX P C esc (gOf ops) Q oi (fun a s => oblD P esc ops c prev x ox a s ∧ drawD P C esc ops Q c (x :: prev) pre K a s) a s) a s := by
      refine gX_mono hC (gX_keep hC h) ?_
      rintro a' s' ⟨hkeep, hob, hdr⟩
      have hapx : isLoad ox = true ∧ kindX P esc ox = 0 → apartX ops x d a' := fun ⟨hl, hk0⟩ => by
        have hic : i ∈ c x := by
          rcases hp with h | h | h | h | h | h | h <;> first | exact h.2.2 hl | omega
        exact hob.2 hk0 i hic d (by rw [hi]; exact hown)
      have hA' : ∀ k ∈ x :: prev, ∀ q, ops[k]? = some q → isLoad q = true → apartX ops k d a' := by
        intro k hk' q hq hl
        rcases List.mem_cons.1 hk' with rfl | hk'
        · rw [hx] at hq; cases hq
          refine hapx ⟨hl, ?_⟩
          unfold isLoad at hl
          unfold kindX
          split at hl
          · rename_i t y e; rw [e]; rfl
          · cases hl
        · obtain ⟨n1, n2⟩ := noOver_spec ((h3 k hk' q hq hl).2 x (by simp) ox hx)
          exact apart_congr hq (fun t ht => hkeep t fun e => by rw [n1 t e] at ht; cases ht) (hA k hk' q hq hl)
      refine ⟨hapx, ?_⟩
      have := move_z hC hi hk hd hg pre (x :: prev) (fun y hy => h1 y (by simp [hy])) (fun y hy => h2 y (by simp [hy]))
        (fun k hk' q hq hl => by
          rcases List.mem_cons.1 hk' with rfl | hk'
          · rw [hx] at hq; cases hq
            exact ⟨⟨hud, hod⟩, fun y hy oy hoy => (pair_spec hx hoy (hpw.1 y hy)).1 hl⟩
          · exact ⟨(h3 k hk' q hq hl).1, fun y hy => (h3 k hk' q hq hl).2 y (by simp [hy])⟩) hpw.2 hA' hdr
      obtain ⟨cc, hc, hdr⟩ := (z_iff hk hd hg).1 this
      refine (z_iff hk hd hg).2 ⟨cc, hc, ⟨?_, ?_⟩, hdr⟩
      · intro hk2 k hkc hkp
        have hst := hob.1 hk2 k hkc hkp
        obtain ⟨q, hq, hl⟩ : ∃ q, ops[k]? = some q ∧ isLoad q = true := by
          unfold stabX at hst
          cases hq : ops[k]? with
          | none => simp [hq] at hst
          | some q =>
            rw [hq] at hst
            refine ⟨q, rfl, ?_⟩
            split at hst
            · rename_i e; cases e; rfl
            · exact hst.elim
        obtain ⟨⟨n1, n2⟩, _⟩ := h3 k hkp q hq hl
        exact stab_own (g := gOf ops) hq n1 n2 (hA' k (by simp [hkp]) q hq hl) hst
      · intro hk0 k hkc d' hd'
        exact apart_congr hx (fun t ht => ownA_t _ _ _ (by rintro rfl; rw [hud] at ht; cases ht)) (hob.2 hk0 k hkc d' hd')
    have fin : gX P C esc (gOf ops) Q oi (gX P C esc (gOf ops) Q ox (fun a s => oblD P esc ops c prev x ox a s ∧ drawD P C esc ops Q c (x :: prev) pre K a s)) a s := by
      rcases hp with h | h | h | h | h | h | h
      · omega
      · exact swap_qz ops x hx hind h.1 hk hd hg (gX_mono hC h' fun a s ⟨u1, u2⟩ => ⟨fun hl => u1 ⟨hl, h.1⟩, u2⟩) (one_self hx h.1 (h1 x (by simp)))
      · omega
      · obtain ⟨e, _, he, _⟩ := kind1 h.1
        exact swap_zz hind h.1 hk he hd (one_guard hx h.1 (h1 x (by simp))) hg (gX_mono hC h' fun a s h => h.2)
      · refine swap_ez hC hind ?_ hk hd hg ?_ (gX_mono hC h' fun a s h => h.2)
        · have := h.2.2.1
          unfold isCallB at this
          split at this
          · rename_i e; exact .inl ⟨_, _, _, e⟩
          · exact .inr this
        · have := h.2.2.2
          unfold isAllocB at this
          split at this
          · rename_i ty e
            rw [Option.isSome_iff_exists] at this
            exact ⟨ty, this.choose, e, this.choose_spec⟩
          · cases this
      · omega
      · omega
    exact gX_mono hC fin fun a s h => ⟨ox, hx, h⟩
end
end Go.Proofs.Ytbcjgolkcfdnfaa.Sim
