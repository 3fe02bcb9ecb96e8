import Derived.Test.YtbcjgolkcfdnfaaSimN
import Derived.Deep.LoopGhost
import Derived.Scope
/- Sim, fifteenth text: code, and functions. No condition. -/
namespace Go.Proofs.Ytbcjgolkcfdnfaa.Sim
open Go

/-- Is each order of what does something, that may be, one of these? -/
def coverB (lt : Nat → Nat → Bool) (ts : List (List Nat)) : Nat → List Nat → List Nat → Bool
  | 0, rem, ch => rem.isEmpty && ts.contains ch.reverse
  | n + 1, rem, ch => match rem with
    | [] => ts.contains ch.reverse
    | rem => rem.all fun i => rem.any (fun x => lt x i) || coverB lt ts n (rem.erase i) (i :: ch)

theorem cover_spec {lt : Nat → Nat → Bool} {ts : List (List Nat)} : ∀ (n : Nat) (rem ch e : List Nat), coverB lt ts n rem ch = true → e.Perm rem → rem.Nodup → e.Pairwise (fun x y => lt y x = false) → (∀ x, x ∈ rem → lt x x = false) → ch.reverse ++ e ∈ ts
  | 0, rem, ch, e, h, hp, _, _, _ => by
    simp only [coverB, Bool.and_eq_true, List.isEmpty_iff] at h
    rw [h.1] at hp
    rw [hp.eq_nil]
    simpa using h.2
  | n + 1, rem, ch, e, h, hp, hnd, hpw, hirr => by
    unfold coverB at h
    cases e with
    | nil =>
      have hr : rem = [] := hp.symm.eq_nil
      subst hr
      simpa using h
    | cons i e =>
      have hi : i ∈ rem := hp.subset (by simp)
      split at h
      · simp at hi
      · rw [List.all_eq_true] at h
        have := h i hi
        rw [Bool.or_eq_true] at this
        have hpw' := List.pairwise_cons.1 hpw
        rcases this with h' | h'
        · rw [List.any_eq_true] at h'
          obtain ⟨x, hx, hlt⟩ := h'
          have hxe : x ∈ i :: e := hp.symm.subset hx
          rcases List.mem_cons.1 hxe with rfl | hxe
          · rw [hirr x hx] at hlt; cases hlt
          · rw [hpw'.1 x hxe] at hlt; cases hlt
        · have hp' : e.Perm (rem.erase i) := (List.perm_cons i).1 (hp.trans (List.perm_cons_erase hi))
          have := cover_spec n (rem.erase i) (i :: ch) e h' hp' (hnd.sublist List.erase_sublist) hpw'.2 (fun x hx => hirr x (List.mem_of_mem_erase hx))
          simpa using this

def pairwiseB (p : Nat → Nat → Bool) : List Nat → Bool
  | [] => true
  | x :: r => r.all (p x) && pairwiseB p r
theorem pairwise_spec {p : Nat → Nat → Bool} : ∀ {l : List Nat}, pairwiseB p l = true → l.Pairwise (fun x y => p x y = true)
  | [], _ => .nil
  | x :: r, h => by
    simp only [pairwiseB, Bool.and_eq_true, List.all_eq_true] at h
    exact .cons h.1 (pairwise_spec h.2)

/-- A test of a region whose order is open, and of the orders that are given for it. -/
def drawOk (P : Program) (esc : List Nat) (ops : Array Oper) (es : List (List Nat × List (Nat × List Nat))) : Bool :=
  let bs := mkBs ops
  bsOk ops bs && (List.range ops.size).all (oneB P esc ops) &&
  es.all (fun e => e.1.isPerm (List.range ops.size) && pairwiseB (pairB P esc ops (fun i => look [] i e.2) (ltB bs)) e.1) &&
  coverB (ltB bs) (es.map fun e => e.1.filter (isEff P esc ops)) ops.size ((List.range ops.size).filter (isEff P esc ops)) []

def codeOk (P : Program) (n : Nat) (loc : Nat → Bool) (cfg : Cfg) : Code → Bool
  | .skip | .label _ | .exit _ | .ret => true
  | .region id ops d => opsOk P n loc cfg.esc ops.toList && (!d || drawOk P cfg.esc ops (look (textX ops) id cfg.dr))
  | .seq x y => codeOk P n loc cfg x && codeOk P n loc cfg y
  | .cond c x y => opnd n loc false c && codeOk P n loc cfg x && codeOk P n loc cfg y
  | .block _ c | .loop c | .scope c => codeOk P n loc cfg c
  | _ => false

section
variable {P : Program} {pr : Pr} {loc : Nat → Bool} {n : Nat} {m m0 : Mu} {z : Nat} {lam : Lam} {a : A} {s : St} {aC : Act} {w : World} {cfg : Cfg}

theorem ords_mem {ops : Array Oper} {Q : Ex → A → St → Prop} {K : A → St → Prop} : ∀ {l : List (List Nat × List (Nat × List Nat))}, ordsX P (CallsX P) cfg.esc ops Q K a s l → ∀ e ∈ l, drawX P (CallsX P) cfg.esc ops Q (fun i => look [] i e.2) e.1 K a s
  | [], h, _, _ => h.elim
  | [(l, c)], h, e, he => by
    obtain rfl : e = (l, c) := by simpa using he
    exact h
  | (l, c) :: x :: r, h, e, he => by
    rcases List.mem_cons.1 he with rfl | he
    · exact h.1
    · exact ords_mem (l := x :: r) h.2 e he

theorem map_some {ops : Array Oper} : ∀ {l : List Nat}, (∀ i ∈ l, i < ops.size) → ∃ os : List Oper, l.map (ops[·]?) = os.map some ∧ ∀ o ∈ os, o ∈ ops.toList
  | [], _ => ⟨[], rfl, by simp⟩
  | i :: l, h => by
    obtain ⟨os, h1, h2⟩ := map_some (l := l) fun j hj => h j (by simp [hj])
    have hi := h i (by simp)
    refine ⟨ops[i] :: os, by simp [hi, h1], fun o ho => ?_⟩
    rcases List.mem_cons.1 ho with rfl | ho
    · simp
    · exact h2 o ho

/-- A region whose order is open. -/
theorem draw_sound (hmix : P.follows .mixedOrders = true) {id : Nat} {ops : Array Oper} {es : List (List Nat × List (Nat × List Nat))} (hok : opsOk P n loc cfg.esc ops.toList = true) (hd : drawOk P cfg.esc ops es = true)
    (h : FR pr loc n m lam a s aC w) (hx : Ext m0 z m) (hz : z ≤ w.heap.size) {Q : Ex → A → St → Prop} {K : A → St → Prop} (hQ : MonoQ (CallsX P) Q) (hk : ordsX P (CallsX P) cfg.esc ops Q K a s es) :
    (Code.region id ops true).wp P (UpQ pr loc n m0 z fun e a s => match e with | .normal => K a s | e => Q e a s) aC w := by
  simp only [drawOk, Bool.and_eq_true] at hd
  obtain ⟨⟨⟨hbs, hone⟩, hes⟩, hcov⟩ := hd
  rw [List.all_eq_true] at hone hes
  refine wp_region_draw fun t => ?_
  simp only [Region.schedule, hmix, Bool.true_or, if_true, Region.linearise]
  have hcount : (List.range ops.size).countP (fun i => !(Array.replicate ops.size false).getD i false) ≤ ops.size := by
    refine Nat.le_trans (List.countP_le_length ..) ?_
    simp
  obtain ⟨l1, l2, l3, l4⟩ := lin hbs ops.size t (Array.replicate ops.size false) (by simp) (fun i o hi => by
    exfalso
    by_cases hlt : i < ops.size
    · simp [hlt] at hi
    · simp [hlt] at hi) hcount
  generalize Region.linearise.go .any ops ops.size t (Array.replicate ops.size false) [] = l at *
  have hperm : l.Perm (List.range ops.size) := (List.perm_ext_iff_of_nodup l2 List.nodup_range).2 fun x => ⟨fun hx => List.mem_range.2 (l1 x hx).1, fun hx => l3 x (List.mem_range.1 hx) (by
    have := List.mem_range.1 hx
    simp [this])⟩
  have hirr : ∀ x, x < ops.size → ltB (mkBs ops) x x = false := fun x hx => by
    cases hlt : ltB (mkBs ops) x x with
    | false => rfl
    | true => exact absurd (bs_irr hbs x x hlt hx) (Nat.lt_irrefl _)
  have hmem := cover_spec (e := l.filter (isEff P cfg.esc ops)) ops.size _ [] hcov (hperm.filter _) (List.nodup_range.sublist List.filter_sublist) (l4.sublist List.filter_sublist)
    (fun x hx => hirr x (List.mem_range.1 (List.mem_filter.1 hx).1))
  simp only [List.reverse_nil, List.nil_append] at hmem
  obtain ⟨e, he, heq⟩ := List.mem_map.1 hmem
  have hthis := hes e he
  rw [Bool.and_eq_true] at hthis
  have hpe : e.1.Perm (List.range ops.size) := List.isPerm_iff.1 hthis.1
  have hdraw := ords_mem hk e he
  obtain ⟨os, hos, hosm⟩ := map_some (ops := ops) (l := l) fun i hi => (l1 i hi).1
  have hV : V P cfg.esc ops (ltB (mkBs ops)) l e.1 := by
    have hnd : e.1.Nodup := hpe.nodup_iff.2 List.nodup_range
    have hlt' : l.Pairwise (fun x y => (fun x y => ltB (mkBs ops) x y && decide (x ≠ y)) y x = false) := l4.imp fun h => by simp [h]
    -- beside itself an operation is never ahead
    have : ∀ x, (fun x y => ltB (mkBs ops) x y && decide (x ≠ y)) x x = false := fun x => by simp
    have hV' := V_of (esc := cfg.esc) (ops := ops) (lt := fun x y => ltB (mkBs ops) x y && decide (x ≠ y)) l e.1 (hperm.trans hpe.symm) hnd hlt' heq.symm this
    have conv : ∀ (l ord : List Nat), (∀ x ∈ ord, x < ops.size) → V P cfg.esc ops (fun x y => ltB (mkBs ops) x y && decide (x ≠ y)) l ord → V P cfg.esc ops (ltB (mkBs ops)) l ord := by
      intro l
      induction l with
      | nil => exact fun _ _ h => h
      | cons i l ih =>
        rintro ord hlt ⟨pre, post, e, h1, h2, h3⟩
        subst e
        refine ⟨pre, post, rfl, fun x hx => ?_, h2, ih _ (fun x hx => hlt x (by rcases List.mem_append.1 hx with h | h <;> simp [h])) h3⟩
        have := h1 x hx
        by_cases hxi : x = i
        · subst hxi; exact hirr x (hlt x (by simp))
        · simpa [hxi] using this
    exact conv l e.1 (fun x hx => List.mem_range.1 (hpe.subset hx)) hV'
  have hops := reorder hQ l e.1 os hV hos (fun x hx => hone x (hpe.subset hx)) (pairwise_spec hthis.2) (draw_to hQ e.1 [] hdraw)
  have hfr : FR pr loc n m lam a s aC { w with drawn := w.drawn + 1 } := h.world (Sub.refl m) (h.wr.drew _) (Nat.le_refl _) (fun _ _ _ _ _ _ => rfl) (fun t v b hb => (h.lr.far t v b hb).2.2)
  have := opsX_sound (ops := ops) (Q := Q) (K := K) os l hos (by
    unfold opsOk at hok ⊢
    rw [List.all_eq_true] at hok ⊢
    exact fun o ho => hok o (hosm o ho)) a s aC { w with drawn := w.drawn + 1 } m lam hfr hx hz hops
  refine Eq.mp ?_ this
  congr 1
  funext e aC w
  cases e <;> rfl

theorem codeX_sound (hmix : P.follows .mixedOrders = true) : ∀ (c : Code) (Q : Ex → A → St → Prop) (a : A) (s : St) (aC : Act) (w : World) (m : Mu) (lam : Lam), codeOk P n loc cfg c = true →
    FR pr loc n m lam a s aC w → Ext m0 z m → z ≤ w.heap.size → codeX P (CallsX P) cfg c Q a s → c.wp P (UpQ pr loc n m0 z Q) aC w := by
  intro c
  induction c with
  | skip => exact fun Q a s aC w m lam _ h hx hz hk => wp_skip ⟨a, s, m, lam, hk, h, hx, hz⟩
  | label l => exact fun Q a s aC w m lam _ h hx hz hk => wp_label ⟨a, s, m, lam, hk, h, hx, hz⟩
  | exit id => exact fun Q a s aC w m lam _ h hx hz hk => wp_exit ⟨a, s, m, lam, hk, h, hx, hz⟩
  | ret => exact fun Q a s aC w m lam _ h hx hz hk => wp_ret ⟨a, s, m, lam, hk, h, hx, hz⟩
  | region id ops d =>
    intro Q a s aC w m lam hok h hx hz hk
    simp only [codeOk, Bool.and_eq_true, Bool.or_eq_true, Bool.not_eq_true'] at hok
    cases d with
    | false =>
      have hidx : (List.range ops.size).map (ops[·]?) = ops.toList.map some := by
        apply List.ext_getElem?
        intro i
        simp only [List.getElem?_map]
        by_cases hi : i < ops.size
        · simp [hi]
        · simp [hi]
      have := opsX_sound (ops := ops) (Q := Q) (K := Q .normal) ops.toList (List.range ops.size) hidx hok.1 a s aC w m lam h hx hz hk
      refine wp_region (Eq.mp ?_ this)
      congr 1
      funext e aC w
      cases e <;> rfl
    | true =>
      have hQ : MonoQ (CallsX P) (bareQ Q) := ⟨calls_mono P, fun v a a' s hd h => by
        have e : a'.bare = a.bare := by simp only [A.bare, hd]
        show Q (.pan v) a'.bare s
        rw [e]
        exact h⟩
      refine wp_mono (draw_sound hmix hok.1 (hok.2.resolve_left (by simp)) h hx hz hQ hk) ?_
      intro e aC w hq
      cases e with
      | normal => exact hq
      | panic c =>
        obtain ⟨a, s, m, v, v', e, hv, hk, hp, hx, hz⟩ := hq
        exact ⟨a.bare, s, m, v, v', e, hv, hk, hp.bare, hx, hz⟩
      | exit id => exact hq
      | ret => exact hq
      | goto l => exact hq.elim
      | outgrown => exact hq.elim
  | seq x y ihx ihy =>
    intro Q a s aC w m lam hok h hx hz hk
    simp only [codeOk, Bool.and_eq_true] at hok
    refine wp_seq (wp_mono (ihx _ a s aC w m lam hok.1 h hx hz hk) ?_)
    intro e aC w hq
    cases e with
    | normal =>
      obtain ⟨a, s, m, lam, hk, h, hx, hz⟩ := hq
      exact ihy Q a s aC w m lam hok.2 h hx hz hk
    | _ => exact hq
  | cond c x y ihx ihy =>
    intro Q a s aC w m lam hok h hx hz hk
    simp only [codeOk, Bool.and_eq_true] at hok
    obtain ⟨b, hb, h1, h2⟩ := hk
    have hv := h.ev hok.1.1
    rw [hb] at hv
    refine wp_cond hv.bool_inv ?_
    cases b with
    | true => exact ihx Q a s aC w m lam hok.1.2 h hx hz (h1 rfl)
    | false => exact ihy Q a s aC w m lam hok.2 h hx hz (h2 rfl)
  | block id c ih =>
    intro Q a s aC w m lam hok h hx hz hk
    refine wp_block (wp_mono (ih _ a s aC w m lam hok h hx hz hk) ?_)
    intro e aC w hq
    cases e with
    | exit j =>
      obtain ⟨a, s, m, lam, hk, h, hx, hz⟩ := hq
      simp only [Exit.inBlock]
      by_cases hj : j = id
      · subst hj
        rw [if_pos rfl]
        simp only [show Nat.beq j j = true from Nat.beq_refl j, cond_true] at hk
        exact ⟨a, s, m, lam, hk, h, hx, hz⟩
      · rw [if_neg hj]
        have : Nat.beq j id = false := by
          cases hb : Nat.beq j id
          · rfl
          · exact absurd (Nat.eq_of_beq_eq_true hb) hj
        simp only [this, cond_false] at hk
        exact ⟨a, s, m, lam, hk, h, hx, hz⟩
    | _ => exact hq
  | loop c ih =>
    intro Q a s aC w m lam hok h hx hz hk
    obtain ⟨I, mm, h0, hround⟩ := hk
    refine wp_loop_ghost (fun k aC w => ∃ a s m lam, mm a s = k ∧ I a s ∧ FR pr loc n m lam a s aC w ∧ Ext m0 z m ∧ z ≤ w.heap.size) (mm a s) ⟨a, s, m, lam, rfl, h0, h, hx, hz⟩ ?_
    rintro k aC w ⟨a, s, m, lam, rfl, hi, h, hx, hz⟩
    refine wp_mono (ih _ a s aC w m lam hok h hx hz (hround a s hi)) ?_
    intro e aC w hq
    cases e with
    | normal =>
      obtain ⟨a', s', m', lam', ⟨hi', hlt⟩, h', hx', hz'⟩ := hq
      exact ⟨mm a' s', hlt, a', s', m', lam', rfl, hi', h', hx', hz'⟩
    | _ => exact hq
  | rangeFunc _ _ _ _ _ _ => exact fun Q a s aC w m lam _ _ _ _ hk => hk.elim
  | scope c ih =>
    intro Q a s aC w m lam hok h hx hz hk
    refine wp_scope_straight (wp_mono (ih Q a s aC w m lam hok h hx hz hk) ?_)
    intro e aC w hq
    cases e with
    | goto l => exact hq.elim
    | _ => exact hq
  | goto _ => exact fun Q a s aC w m lam _ _ _ _ hk => hk.elim
  | refuse _ => exact fun Q a s aC w m lam _ _ _ _ hk => hk.elim
end
end Go.Proofs.Ytbcjgolkcfdnfaa.Sim
