import Derived.Test.YtbcjgolkcfdnfaaSimM
/- Sim, fourteenth text: regions whose order is open. No condition. -/
namespace Go.Proofs.Ytbcjgolkcfdnfaa.Sim
open Go

section
variable {P : Program} {C : CT} {esc : List Nat} {Q : Ex → A → St → Prop} {K : A → St → Prop} {a : A} {s : St} {ops : Array Oper} {c : Nat → List Nat} {lt : Nat → Nat → Bool}

def isEff (P : Program) (esc : List Nat) (ops : Array Oper) (i : Nat) : Bool := match ops[i]? with | some o => kindX P esc o == 2 | none => false

/-- An order, against one that is known. -/
def V (P : Program) (esc : List Nat) (ops : Array Oper) (lt : Nat → Nat → Bool) : List Nat → List Nat → Prop
  | [], ord => ord = []
  | i :: l, ord => ∃ pre post, ord = pre ++ i :: post ∧ (∀ x ∈ pre, lt x i = false) ∧ (isEff P esc ops i = true → ∀ x ∈ pre, isEff P esc ops x = false) ∧ V P esc ops lt l (pre ++ post)

theorem kind_load {o : Oper} (h : isLoad o = true) : kindX P esc o = 0 := by
  unfold isLoad at h
  unfold kindX
  split at h
  · rename_i e; rw [e]; rfl
  · cases h

theorem reorder (hC : MonoQ C Q) : ∀ (l ord : List Nat) (os : List Oper), V P esc ops lt l ord → l.map (ops[·]?) = os.map some → (∀ x ∈ ord, oneB P esc ops x = true) → ord.Pairwise (fun x y => pairB P esc ops c lt x y = true) →
    ∀ {a : A} {s : St}, drawD P C esc ops Q c [] ord K a s → opsX P C esc (gOf ops) Q os K a s
  | [], ord, os, hv, hm, _, _, a, s, h => by
    have hv : ord = [] := hv
    subst hv
    have : os = [] := by cases os <;> simp_all
    subst this
    exact h
  | i :: l, ord, os, ⟨pre, post, e, hlt, heff, hv⟩, hm, h1, hpw, a, s, h => by
    subst e
    cases os with
    | nil => simp at hm
    | cons oi os =>
    simp only [List.map_cons, List.cons.injEq] at hm
    obtain ⟨hoi, hm⟩ := hm
    have hone : oneB P esc ops i = true := h1 i (by simp)
    rw [List.pairwise_append] at hpw
    obtain ⟨hp1, hp2, hp3⟩ := hpw
    rw [List.pairwise_cons] at hp2
    have hpi : ∀ x ∈ pre, pairB P esc ops c lt x i = true ∧ lt x i = false := fun x hx => ⟨hp3 x hx i (by simp), hlt x hx⟩
    have h1' : ∀ x ∈ pre, oneB P esc ops x = true := fun x hx => h1 x (by simp [hx])
    -- the operation, moved ahead
    have moved : gX P C esc (gOf ops) Q oi (drawD P C esc ops Q c [] (pre ++ post) K) a s := by
      rw [drawD_app hC] at h
      simp only [List.append_nil] at h
      have hpost : ∀ a s, drawD P C esc ops Q c (i :: pre.reverse) post K a s → drawD P C esc ops Q c pre.reverse post K a s :=
        fun a s h => drawD_mono hC (fun _ _ h => h) post _ _ (fun x hx => by simp [List.mem_reverse.1 hx]) h
      have fin : ∀ a s, drawD P C esc ops Q c [] pre (drawD P C esc ops Q c pre.reverse post K) a s → drawD P C esc ops Q c [] (pre ++ post) K a s := fun a s h => by
        rw [drawD_app hC]; simpa using h
      have hk : kindX P esc oi = 0 ∨ kindX P esc oi = 1 ∨ kindX P esc oi = 2 := by
        unfold kindX
        repeat' split
        all_goals first | simp | (cases isEffOp P oi.op <;> simp)
      rcases hk with hk | hk | hk
      · have h' := drawD_mono (K' := gX P C esc (gOf ops) Q oi (drawD P C esc ops Q c pre.reverse post K)) hC (fun a s ⟨o, ho, h⟩ => by
          rw [hoi] at ho; cases ho
          exact gX_mono hC h fun a s h => hpost a s h.2) pre [] [] (fun _ h => h) h
        exact gX_mono hC (move_q hC hoi hk pre [] h1' hpi (by simp) h') fin
      · obtain ⟨d, _, hd, _, _⟩ := kind1 hk
        have h' := drawD_mono (K' := gX P C esc (gOf ops) Q oi (drawD P C esc ops Q c pre.reverse post K)) hC (fun a s ⟨o, ho, h⟩ => by
          rw [hoi] at ho; cases ho
          exact gX_mono hC h fun a s h => hpost a s h.2) pre [] [] (fun _ h => h) h
        exact gX_mono hC (move_z hC hoi hk hd (one_guard hoi hk hone) pre [] h1' hpi (by simp) hp1 (by simp) h') fin
      · have hne : ∀ x ∈ pre, ∀ ox, ops[x]? = some ox → kindX P esc ox ≠ 2 := fun x hx ox hox e => by
          have := heff (by simp [isEff, hoi, hk]) x hx
          simp [isEff, hox, e] at this
        have h' := drawD_mono (K' := gX P C esc (gOf ops) Q oi (fun a s => (∀ k, k ∈ ([] : List Nat) ∨ k ∈ pre → ∀ q, ops[k]? = some q → isLoad q = true → stabX P ops k a s) ∧ drawD P C esc ops Q c pre.reverse post K a s)) hC (fun a s ⟨o, ho, h⟩ => by
          rw [hoi] at ho; cases ho
          refine gX_mono hC h fun a s h => ⟨fun k hk' q hq hl => ?_, hpost a s h.2⟩
          have hkp : k ∈ pre := by simpa using hk'
          refine h.1.1 hk k ?_ (List.mem_reverse.2 hkp)
          obtain ⟨hp, hl'⟩ := hpi k hkp
          obtain ⟨_, hp⟩ := pair_spec hq hoi hp
          have h0 := kind_load (P := P) (esc := esc) hl
          rcases (hp hl').2 with h | h | h | h | h | h | h
          · omega
          · omega
          · exact h.2.2 hl
          · omega
          · omega
          · omega
          · omega) pre [] [] (fun _ h => h) h
        exact gX_mono hC (move_e hC hoi hk pre [] [] h1' (fun x hx => ⟨(hpi x hx).1, (hpi x hx).2, hne x hx⟩) (by simp) hp1 h') fun a s h => fin a s h.2
    refine gX_mono hC moved fun a s h => ?_
    refine reorder hC l (pre ++ post) os hv hm (fun x hx => h1 x (by
      rcases List.mem_append.1 hx with hx | hx
      · simp [hx]
      · simp [hx])) ?_ h
    rw [List.pairwise_append]
    exact ⟨hp1, hp2.2, fun x hx y hy => hp3 x hx y (by simp [hy])⟩

theorem V_of : ∀ (l ord : List Nat), l.Perm ord → ord.Nodup → l.Pairwise (fun x y => lt y x = false) → l.filter (isEff P esc ops) = ord.filter (isEff P esc ops) → (∀ x, lt x x = false) → V P esc ops lt l ord
  | [], ord, hp, _, _, _, _ => by
    have := hp.symm.eq_nil
    exact this
  | i :: l, ord, hp, hnd, hpw, hf, hirr => by
    obtain ⟨pre, post, rfl⟩ := List.append_of_mem (hp.subset (List.mem_cons_self ..))
    have hp' : l.Perm (pre ++ post) := by
      have := hp.trans (List.perm_middle (a := i) (l₁ := pre) (l₂ := post))
      exact (List.perm_cons i).1 this
    rw [List.pairwise_cons] at hpw
    have hin : i ∉ pre := by
      intro h
      have := List.nodup_append.1 hnd
      exact this.2.2 i h i (by simp) rfl
    have hnd' : (pre ++ post).Nodup := by
      have := (List.perm_middle (a := i) (l₁ := pre) (l₂ := post)).nodup_iff.1 hnd
      exact (List.nodup_cons.1 this).2
    refine ⟨pre, post, rfl, fun x hx => ?_, fun he x hx => ?_, V_of l _ hp' hnd' hpw.2 ?_ hirr⟩
    · have : x ∈ l := hp'.symm.subset (by simp [hx])
      exact hpw.1 x this
    · rw [List.filter_cons_of_pos he, List.filter_append, List.filter_cons_of_pos he] at hf
      cases hfp : pre.filter (isEff P esc ops) with
      | nil =>
        cases hx' : isEff P esc ops x with
        | false => rfl
        | true =>
          have : x ∈ pre.filter (isEff P esc ops) := List.mem_filter.2 ⟨hx, hx'⟩
          rw [hfp] at this; cases this
      | cons y ys =>
        rw [hfp] at hf
        simp only [List.cons_append, List.cons.injEq] at hf
        have : y ∈ pre.filter (isEff P esc ops) := by rw [hfp]; simp
        rw [← hf.1] at this
        exact absurd (List.mem_filter.1 this).1 hin
    · rw [List.filter_append] at hf ⊢
      cases he : isEff P esc ops i with
      | false => rw [List.filter_cons_of_neg (by simp [he]), List.filter_cons_of_neg (by simp [he])] at hf; exact hf
      | true =>
        rw [List.filter_cons_of_pos he, List.filter_cons_of_pos he] at hf
        cases hfp : pre.filter (isEff P esc ops) with
        | nil => rw [hfp] at hf; simpa using hf
        | cons y ys =>
          rw [hfp] at hf
          simp only [List.cons_append, List.cons.injEq] at hf
          have : y ∈ pre.filter (isEff P esc ops) := by rw [hfp]; simp
          rw [← hf.1] at this
          exact absurd (List.mem_filter.1 this).1 hin

/-! ### What a machine's order is -/
def direct (o : Oper) : List Nat := (o.after.toList.filter (fun e => Region.binds .any e)).map (·.on)
def mkBs (ops : Array Oper) : List (List Nat) :=
  ops.toList.foldl (fun acc o => acc ++ [(direct o).foldl (fun l k => (k :: acc.getD k []).foldl (fun l x => if l.contains x then l else x :: l) l) []]) []
def ltB (bs : List (List Nat)) (x y : Nat) : Bool := (bs.getD y []).contains x
def bsOk (ops : Array Oper) (bs : List (List Nat)) : Bool :=
  (List.range ops.size).all fun i => match ops[i]? with
    | some o => (direct o).all (fun k => Nat.blt k i) && (bs.getD i []).all (fun x => (direct o).contains x || (direct o).any (fun k => (bs.getD k []).contains x))
    | none => false

theorem bs_spec {bs : List (List Nat)} (h : bsOk ops bs = true) {i : Nat} {o : Oper} (ho : ops[i]? = some o) :
    (∀ k ∈ direct o, k < i) ∧ ∀ x, ltB bs x i = true → x ∈ direct o ∨ ∃ k ∈ direct o, ltB bs x k = true := by
  unfold bsOk at h
  rw [List.all_eq_true] at h
  have := h i (List.mem_range.2 (Array.getElem?_eq_some_iff.1 ho).1)
  rw [ho] at this
  simp only [Bool.and_eq_true, List.all_eq_true] at this
  refine ⟨fun k hk => Nat.le_of_ble_eq_true (this.1 k hk), fun x hx => ?_⟩
  have := this.2 x (by simpa [ltB] using hx)
  rw [Bool.or_eq_true, List.any_eq_true] at this
  refine this.imp (fun h => by simpa using h) fun ⟨k, hk, h⟩ => ⟨k, hk, h⟩

theorem bs_closed {bs : List (List Nat)} (h : bsOk ops bs = true) {S : Nat → Prop} (hS : ∀ i o, S i → ops[i]? = some o → ∀ k ∈ direct o, S k) : ∀ (i : Nat), i < ops.size → (∀ o, ops[i]? = some o → ∀ k ∈ direct o, S k) → ∀ x, ltB bs x i = true → S x := by
  intro i
  induction i using Nat.strongRecOn with
  | _ i ih =>
    intro hi hd x hx
    obtain ⟨o, ho⟩ : ∃ o, ops[i]? = some o := ⟨ops[i], by simp [hi]⟩
    obtain ⟨h1, h2⟩ := bs_spec h ho
    rcases h2 x hx with h' | ⟨k, hk, h'⟩
    · exact hd o ho x h'
    · exact ih k (h1 k hk) (Nat.lt_trans (h1 k hk) hi) (fun ok hok => hS k ok (hd o ho k hk) hok) x h'

theorem bs_irr {bs : List (List Nat)} (h : bsOk ops bs = true) : ∀ (i x : Nat), ltB bs x i = true → i < ops.size → x < i := by
  intro i
  induction i using Nat.strongRecOn with
  | _ i ih =>
    intro x hx hi
    obtain ⟨o, ho⟩ : ∃ o, ops[i]? = some o := ⟨ops[i], by simp [hi]⟩
    obtain ⟨h1, h2⟩ := bs_spec h ho
    rcases h2 x hx with h' | ⟨k, hk, h'⟩
    · exact h1 x h'
    · exact Nat.lt_trans (ih k (h1 k hk) x h' (Nat.lt_trans (h1 k hk) hi)) (h1 k hk)

theorem countP_lt {α : Type} {p q : α → Bool} : ∀ {l : List α}, (∀ x ∈ l, q x = true → p x = true) → (∃ x ∈ l, p x = true ∧ q x = false) → l.countP q < l.countP p
  | [], _, ⟨_, h, _⟩ => by cases h
  | x :: l, h, ⟨y, hy, hp, hq⟩ => by
    have hle : l.countP q ≤ l.countP p := List.countP_mono_left fun z hz => h z (by simp [hz])
    rcases List.mem_cons.1 hy with rfl | hy
    · rw [List.countP_cons_of_pos hp, List.countP_cons_of_neg (by simp [hq])]
      omega
    · have := countP_lt (l := l) (fun z hz => h z (by simp [hz])) ⟨y, hy, hp, hq⟩
      rw [List.countP_cons, List.countP_cons]
      have hx := h x (by simp)
      cases hqx : q x with
      | false => simp; split <;> omega
      | true => simp [hx hqx, this]

theorem getD_true_of_false {L : Array Bool} {i : Nat} (hi : i < L.size) : L.getD i true = L.getD i false := by
  simp [Array.getD_eq_getD_getElem?, hi]

theorem lin {bs : List (List Nat)} (hb : bsOk ops bs = true) : ∀ (fuel t : Nat) (L : Array Bool), L.size = ops.size → (∀ i o, L.getD i false = true → ops[i]? = some o → ∀ k ∈ direct o, L.getD k false = true) →
    (List.range ops.size).countP (fun i => !L.getD i false) ≤ fuel →
    (∀ x ∈ Region.linearise.go .any ops fuel t L [], x < ops.size ∧ L.getD x false = false) ∧ (Region.linearise.go .any ops fuel t L []).Nodup ∧
    (∀ i, i < ops.size → L.getD i false = false → i ∈ Region.linearise.go .any ops fuel t L []) ∧ (Region.linearise.go .any ops fuel t L []).Pairwise (fun x y => ltB bs y x = false) := by
  intro fuel
  induction fuel with
  | zero =>
    intro t L hs hc hcnt
    have h0 : ∀ i, i < ops.size → L.getD i false = true := by
      intro i hi
      have := List.countP_eq_zero.1 (Nat.le_zero.1 hcnt) i (List.mem_range.2 hi)
      simpa using this
    have hgo : Region.linearise.go .any ops 0 t L [] = [] := rfl
    rw [hgo]
    exact ⟨fun x h => by (cases h), List.nodup_nil, fun i hi h => by (rw [h0 i hi] at h; cases h), List.Pairwise.nil⟩
  | succ fuel ih =>
    intro t L hs hc hcnt
    simp only [Region.linearise.go]
    change (∀ x ∈ (match (Region.ready .any ops L)[t % (Region.ready .any ops L).length]? with
      | some i => Region.linearise.go .any ops fuel (t / (Region.ready .any ops L).length) (L.setIfInBounds i true) [i]
      | none => [].reverse), _) ∧ (match (Region.ready .any ops L)[t % (Region.ready .any ops L).length]? with
      | some i => Region.linearise.go .any ops fuel (t / (Region.ready .any ops L).length) (L.setIfInBounds i true) [i]
      | none => [].reverse).Nodup ∧ (∀ i, _ → _ → i ∈ (match (Region.ready .any ops L)[t % (Region.ready .any ops L).length]? with
      | some i => Region.linearise.go .any ops fuel (t / (Region.ready .any ops L).length) (L.setIfInBounds i true) [i]
      | none => [].reverse)) ∧ (match (Region.ready .any ops L)[t % (Region.ready .any ops L).length]? with
      | some i => Region.linearise.go .any ops fuel (t / (Region.ready .any ops L).length) (L.setIfInBounds i true) [i]
      | none => [].reverse).Pairwise _
    have hready : ∀ i, i ∈ Region.ready .any ops L ↔ L.getD i true = false ∧ ∃ o, ops[i]? = some o ∧ ∀ e ∈ o.after, Region.binds .any e = true → L.getD e.on false = true := fun i => mem_ready
    cases hr : (Region.ready .any ops L)[t % (Region.ready .any ops L).length]? with
    | none =>
      have hnil : Region.ready .any ops L = [] := by
        cases hrr : Region.ready .any ops L with
        | nil => rfl
        | cons x xs =>
          rw [hrr] at hr
          have hlt : t % (x :: xs).length < (x :: xs).length := Nat.mod_lt _ (by simp)
          rw [List.getElem?_eq_getElem hlt] at hr
          cases hr
      have hall : ∀ i, i < ops.size → L.getD i false = true := by
        intro i
        induction i using Nat.strongRecOn with
        | _ i ihi =>
          intro hi
          cases hL : L.getD i false with
          | true => rfl
          | false =>
            exfalso
            obtain ⟨o, ho⟩ : ∃ o, ops[i]? = some o := ⟨ops[i], by simp [hi]⟩
            obtain ⟨h1, _⟩ := bs_spec hb ho
            have : i ∈ Region.ready .any ops L := (hready i).2 ⟨by rw [getD_true_of_false (by omega)]; exact hL, o, ho, fun e he hbd => by
              have hk : e.on ∈ direct o := by
                unfold direct
                exact List.mem_map.2 ⟨e, List.mem_filter.2 ⟨by simpa using he, hbd⟩, rfl⟩
              exact ihi e.on (h1 _ hk) (Nat.lt_trans (h1 _ hk) hi)⟩
            rw [hnil] at this; cases this
      exact ⟨fun x h => by (cases h), List.nodup_nil, fun i hi h => by (rw [hall i hi] at h; cases h), List.Pairwise.nil⟩
    | some i =>
      simp only
      rw [linearise_go_acc, List.reverse_singleton, List.singleton_append]
      obtain ⟨hiL, o, ho, hedge⟩ := (hready i).1 (List.mem_of_getElem? hr)
      have hilt : i < ops.size := (Array.getElem?_eq_some_iff.1 ho).1
      have hiLf : L.getD i false = false := by rw [← getD_true_of_false (by omega)]; exact hiL
      have hdir : ∀ k ∈ direct o, L.getD k false = true := fun k hk => by
        unfold direct at hk
        obtain ⟨e, he, rfl⟩ := List.mem_map.1 hk
        obtain ⟨he, hbd⟩ := List.mem_filter.1 he
        exact hedge e (by simpa using he) hbd
      have hset : ∀ j, (L.setIfInBounds i true).getD j false = if j = i then true else L.getD j false := fun j => by
        by_cases hji : j = i
        · subst hji
          rw [if_pos rfl]
          simp [hs, hilt]
        · rw [if_neg hji]
          simp [Array.getElem?_setIfInBounds_ne (Ne.symm hji)]
      have hc' : ∀ j oj, (L.setIfInBounds i true).getD j false = true → ops[j]? = some oj → ∀ k ∈ direct oj, (L.setIfInBounds i true).getD k false = true := by
        intro j oj hj hoj k hk
        rw [hset] at hj ⊢
        split
        · rfl
        · split at hj
          · rename_i e; subst e
            rw [ho] at hoj; cases hoj
            exact hdir k hk
          · exact hc j oj hj hoj k hk
      have hcnt' : (List.range ops.size).countP (fun j => !(L.setIfInBounds i true).getD j false) ≤ fuel := by
        have : (List.range ops.size).countP (fun j => !(L.setIfInBounds i true).getD j false) < (List.range ops.size).countP (fun j => !L.getD j false) := by
          refine countP_lt (fun x _ hx => ?_) ⟨i, List.mem_range.2 hilt, by rw [hiLf]; rfl, by rw [hset, if_pos rfl]; rfl⟩
          rw [hset] at hx
          split at hx
          · cases hx
          · exact hx
        omega
      obtain ⟨r1, r2, r3, r4⟩ := ih (t / (Region.ready .any ops L).length) (L.setIfInBounds i true) (by simpa using hs) hc' hcnt'
      refine ⟨?_, ?_, ?_, ?_⟩
      · intro x hx
        rcases List.mem_cons.1 hx with rfl | hx
        · exact ⟨hilt, hiLf⟩
        · obtain ⟨h1, h2⟩ := r1 x hx
          rw [hset] at h2
          split at h2
          · cases h2
          · exact ⟨h1, h2⟩
      · refine List.nodup_cons.2 ⟨fun h => ?_, r2⟩
        have := (r1 i h).2
        rw [hset, if_pos rfl] at this; cases this
      · intro j hj hjL
        by_cases hji : j = i
        · simp [hji]
        · exact List.mem_cons_of_mem _ (r3 j hj (by rw [hset, if_neg hji]; exact hjL))
      · refine List.pairwise_cons.2 ⟨fun y hy => ?_, r4⟩
        cases hlt : ltB bs y i with
        | false => rfl
        | true =>
          have : L.getD y false = true := bs_closed hb (S := fun k => L.getD k false = true) hc i hilt (fun o' ho' => by rw [ho] at ho'; cases ho'; exact hdir) y hlt
          have h2 := (r1 y hy).2
          rw [hset] at h2
          split at h2
          · cases h2
          · rw [this] at h2; cases h2
end
end Go.Proofs.Ytbcjgolkcfdnfaa.Sim
