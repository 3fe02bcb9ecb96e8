/- ScevNear: for every operation and every near beginning, step and end, Count tells how often the test goes on just where the test fails some time, and tells it right. No condition. -/
import Derived.Test.YtjnaccibipjoaaaPScevNearx2
import Derived.Test.YtjnaccibipjoaaaPlainScevNear
namespace Go.Proofs.Ytjnaccibipjoaaa.Pure
open Go.RowKit Go.Proofs.Ytjnaccibipjoaaa.PScevNear Go.Proofs.YtjnaccibipjoaaaW.PrintWords Go.Proofs.YtjnaccibipjoaaaW.PrintLast Go.Proofs.Ytjnaccibipjoaaa.Arith Go.Proofs.Ytjnaccibipjoaaa.PlainScevNear

/-- What the law says behind its loop. -/
def ends (op n : Int) (ok : Bool) (k : Int) : Bool :=
  if op < 18 then !ok else if op > 22 then !ok else if k < 200 then (ok && n == k) else !ok

theorem near_end (K : Nat) (op n : Int) (ok : Bool) (k : Int) (hk : k ≤ 200) : distafflaw21_ScevNear.j1 (K + 3) op n ok k = some (ends op n ok k) := by
  simp only [distafflaw21_ScevNear.j1, distafflaw21_ScevNear.j2]
  rw [awake_eq K]
  unfold ends
  by_cases h : op < 18
  · rw [if_pos h, if_pos h]; rfl
  rw [if_neg h, if_neg h]
  by_cases h2 : op > 22
  · rw [decide_eq_true h2, if_pos rfl, if_pos h2]; rfl
  rw [decide_eq_false h2, if_neg h2, if_neg (by decide)]
  simp only [Option.bind_some, if_true]
  by_cases h3 : k < 200
  · rw [if_pos h3, if_pos h3]
    cases ok
    · rw [if_neg (by decide), if_neg (by omega)]; rfl
    · rw [if_pos rfl]
      by_cases e : n = k
      · rw [if_pos e]; simp [e]
      · rw [if_neg e, if_neg (by omega)]
        have : (n == k) = false := by simpa using e
        rw [this]; rfl
  · rw [if_neg h3, if_neg h3, if_pos (by omega)]

theorem ite_some {α : Type} {c : Prop} [Decidable c] {x y : Option α} (hx : x.isSome = true) (hy : y.isSome = true) : (if c then x else y).isSome = true := by
  split
  · exact hx
  · exact hy
theorem bind_some' {α β : Type} {x : Option α} {f : α → β} (hx : x.isSome = true) : (x.bind fun t => some (f t)).isSome = true := by
  cases x with
  | none => cases hx
  | some _ => rfl

/-- What the reference says of any operation. -/
theorem plain_some (op a b : Int) : ∃ r, distaffref01_Plain.f op a b = some r := by
  rw [← Option.isSome_iff_exists]
  unfold distaffref01_Plain.f distaffref01_one.f
  have h : 0 ≤ Go.bits .and .u64 (IntKind.u64.wrap b) 63 := by
    have h : Go.bits .and .u64 (IntKind.u64.wrap b) 63 = IntKind.u64.wrap b % 64 := bits_mask .u64 64 (by decide) wrap_u64_in 6 (by decide) (IntKind.u64.wrap b) (by rw [u64_mod]; omega) (by rw [u64_mod]; omega)
    rw [h]; omega
  simp only [h, if_true]
  repeat' first
    | rfl
    | apply bind_some'
    | apply ite_some

theorem near_loop_other {op : Int} (ho : op < 18 ∨ op > 22) (b d n : Int) (m : Nat) : ∀ (K : Nat) (i k : Int), 0 ≤ k → 200 - k = m → m + 4 < K →
    distafflaw21_ScevNear.l0 K op d b n false i k = some true := by
  have he : ∀ k, ends op n false k = true := fun k => by
    unfold ends
    rcases ho with h | h
    · rw [if_pos h]; rfl
    · rw [if_neg (by omega), if_pos h]; rfl
  induction m with
  | zero =>
    intro K i k k0 hm hK
    obtain ⟨K, rfl⟩ : ∃ j, K = j + 4 := ⟨K - 4, by omega⟩
    rw [distafflaw21_ScevNear.l0, if_neg (by omega), near_end K op n false k (by omega), he]
  | succ m ih =>
    intro K i k k0 hm hK
    obtain ⟨K, rfl⟩ : ∃ j, K = j + 4 := ⟨K - 4, by omega⟩
    rw [distafflaw21_ScevNear.l0, if_pos (by omega)]
    obtain ⟨r, hr⟩ := plain_some op i b
    rw [hr]
    simp only [Option.bind_some]
    by_cases h : r.1 = 1
    · rw [if_pos h]
      have e1 : wrap64 (k + 1) = k + 1 := by unfold wrap64; omega
      rw [e1]
      exact ih (K + 3) _ (k + 1) (by omega) (by omega) (by omega)
    · rw [if_neg h, near_end K op n false k (by omega), he]

/-- Near numbers. -/
structure Near (a d b : Int) : Prop where
  a0 : 0 ≤ a
  a1 : a ≤ 63
  d0 : -3 ≤ d
  d1 : d ≤ 4
  b0 : 0 ≤ b
  b1 : b ≤ 63

/-- So many rounds, all of which go on. -/
theorem near_loop {op : Int} (h0 : 18 ≤ op) (h1 : op ≤ 22) {a d b : Int} (hn : Near a d b) (n : Int) (ok : Bool) (t : Int) (t1 : t ≤ 200) (hy : ∀ k, 0 ≤ k → k < t → tells op (a + d * k) b = true)
    (he : t = 200 ∨ tells op (a + d * t) b = false) (hend : ends op n ok t = true) (m : Nat) :
    ∀ (K : Nat) (k : Int), 0 ≤ k → k + m = t → m + 4 < K → distafflaw21_ScevNear.l0 K op d b n ok (a + d * k) k = some true := by
  induction m with
  | zero =>
    intro K k k0 km hK
    obtain ⟨K, rfl⟩ : ∃ j, K = j + 4 := ⟨K - 4, by omega⟩
    obtain rfl : k = t := by omega
    rw [distafflaw21_ScevNear.l0]
    by_cases h : k < 200
    · rw [if_pos h, plain_eq op _ b h0 h1, he.resolve_left (by omega)]
      simp only [Option.bind_some]
      rw [if_neg (by decide), near_end K op n ok k t1, hend]
    · rw [if_neg h, near_end K op n ok k t1, hend]
  | succ m ih =>
    intro K k k0 km hK
    obtain ⟨K, rfl⟩ : ∃ j, K = j + 4 := ⟨K - 4, by omega⟩
    rw [distafflaw21_ScevNear.l0, if_pos (by omega), plain_eq op _ b h0 h1, hy k k0 (by omega)]
    simp only [Option.bind_some, if_true]
    have e1 : wrap64 (k + 1) = k + 1 := by unfold wrap64; omega
    have e2 : wrap64 (a + d * k + d) = a + d * (k + 1) := by
      obtain ⟨a0, a1, d0, d1, b0, b1⟩ := hn
      have u1 : d * k ≤ 4 * k := Int.mul_le_mul_of_nonneg_right d1 k0
      have u2 : -3 * k ≤ d * k := Int.mul_le_mul_of_nonneg_right d0 k0
      rw [Int.mul_add, Int.mul_one]
      unfold wrap64; omega
    rw [e1, e2]
    exact ih (K + 3) (k + 1) (by omega) (by omega) (by omega)

theorem cnt_le {a s b n : Int} (h : cnt a s b = (n, true)) : n ≤ 0 ∨ n ≤ b - a := by
  unfold cnt at h
  split at h
  · simp only [Prod.mk.injEq, and_true] at h; omega
  · split at h
    · simp at h
    · split at h
      · simp only [Prod.mk.injEq, and_true] at h
        have : (b - a - 1) / s ≤ b - a - 1 := Int.ediv_le_self _ (by omega)
        omega
      · simp at h

theorem cnt_near {a s b n : Int} (a0 : -200 ≤ a) (b1 : b ≤ 200) (s1 : s ≤ 4) (h : cnt a s b = (n, false)) : a < b ∧ s ≤ 0 := by
  unfold cnt at h
  split at h
  · simp at h
  · split at h
    · omega
    · exfalso
      rename_i h1 h2
      have hq0 : 0 ≤ (b - a - 1) / s := Int.ediv_nonneg (by omega) (by omega)
      have hq1 : (b - a - 1) / s ≤ b - a - 1 := Int.ediv_le_self _ (by omega)
      have u1 : s * ((b - a - 1) / s + 1) ≤ 4 * ((b - a - 1) / s + 1) := Int.mul_le_mul_of_nonneg_right s1 (by omega)
      have u2 : 0 ≤ s * ((b - a - 1) / s + 1) := Int.mul_nonneg (by omega) (by omega)
      rw [if_pos ⟨by unfold in64; omega, by unfold in64; omega, by omega⟩] at h
      simp at h

theorem Cnt_le {op a d b n : Int} (hn : Near a d b) (h : Cnt op a d b = (n, true)) : n ≤ 64 := by
  obtain ⟨a0, a1, d0, d1, b0, b1⟩ := hn
  unfold Cnt at h
  repeat' split at h
  all_goals first
    | (have := cnt_le h; omega)
    | (simp at h; done)
    | (simp only [Prod.mk.injEq, and_true] at h; omega)
    | (rename_i c
       simp only [Prod.mk.injEq, and_true] at h
       have := cnt_le (Prod.ext h c.1 : _ = (n, true))
       omega)

theorem down (a d k : Int) (hd : d ≤ 0) (hk : 0 ≤ k) : a + d * k ≤ a := by
  have h2 : 0 ≤ (-d) * k := Int.mul_nonneg (by omega) hk
  rw [Int.neg_mul] at h2
  omega

theorem never {op a d b n : Int} (hn : Near a d b) (h0 : 18 ≤ op) (h1 : op ≤ 22) (h : Cnt op a d b = (n, false)) (k : Int) (hk : 0 ≤ k) : tells op (a + d * k) b = true := by
  obtain ⟨a0, a1, d0, d1, b0, b1⟩ := hn
  have h5 : op = 18 ∨ op = 19 ∨ op = 20 ∨ op = 21 ∨ op = 22 := by omega
  have up : -d ≤ 0 → a ≤ a + d * k := fun hd => by have := down (-1 - a) (-d) k hd hk; rw [turn_mul] at this; omega
  unfold Cnt at h
  unfold tells
  rcases h5 with rfl | rfl | rfl | rfl | rfl
  · simp only [Int.reduceEq, if_false, if_true] at h ⊢
    simp only [bne_iff_ne, ne_eq]
    by_cases e : a = b
    · rw [if_pos e] at h; simp at h
    rw [if_neg e] at h
    by_cases l : a < b
    · rw [if_pos l] at h
      rcases hc : cnt a d b with ⟨n', ok⟩
      cases ok with
      | false =>
        have := cnt_near (by omega) (by omega) (by omega) hc
        have := down a d k this.2 hk
        omega
      | true =>
        rw [hc] at h
        split at h
        · simp at h
        · rename_i hne
          simp only [true_and] at hne
          have hl := cnt_le hc
          obtain ⟨p0, p1, p2, p3⟩ := cnt_says hc
          rcases p1 with rfl | p1
          · omega
          have u1 : d * n' ≤ 4 * n' := Int.mul_le_mul_of_nonneg_right d1 p0
          have u2 : 0 ≤ d * n' := Int.mul_nonneg (by omega) p0
          have hne2 : a + d * n' ≠ b := by unfold wrap64 at hne; omega
          by_cases kl : k < n'
          · have := p3 k hk kl; omega
          · have : d * n' ≤ d * k := Int.mul_le_mul_of_nonneg_left (by omega) (by omega)
            omega
    · rw [if_neg l] at h
      rcases hc : cnt (-1 - a) (-d) (-1 - b) with ⟨n', ok⟩
      cases ok with
      | false =>
        have := cnt_near (by omega) (by omega) (by omega) hc
        have := up this.2
        omega
      | true =>
        rw [hc] at h
        split at h
        · simp at h
        · rename_i hne
          simp only [true_and] at hne
          have hl := cnt_le hc
          obtain ⟨p0, p1, p2, p3⟩ := cnt_says hc
          rcases p1 with rfl | p1
          · omega
          rw [turn_mul] at p2
          have u1 : (-d) * n' ≤ 4 * n' := Int.mul_le_mul_of_nonneg_right (by omega) p0
          have u2 : 0 ≤ (-d) * n' := Int.mul_nonneg (by omega) p0
          rw [Int.neg_mul] at u1 u2
          have hne2 : a + d * n' ≠ b := by unfold wrap64 at hne; omega
          by_cases kl : k < n'
          · have := p3 k hk kl; rw [turn_mul] at this; omega
          · have : (-d) * n' ≤ (-d) * k := Int.mul_le_mul_of_nonneg_left (by omega) (by omega)
            rw [Int.neg_mul, Int.neg_mul] at this
            omega
  · simp only [Int.reduceEq, if_false, if_true] at h ⊢
    have := cnt_near (by omega) (by omega) (by omega) h
    have := down a d k this.2 hk
    simp; omega
  · simp only [Int.reduceEq, if_false, if_true] at h ⊢
    rw [if_pos (by omega)] at h
    have := cnt_near (by omega) (by omega) (by omega) h
    have := down a d k this.2 hk
    simp; omega
  · simp only [Int.reduceEq, if_false, if_true] at h ⊢
    have := cnt_near (by omega) (by omega) (by omega) h
    have := up this.2
    simp; omega
  · simp only [Int.reduceEq, if_false, if_true] at h ⊢
    rw [if_pos (by omega)] at h
    have := cnt_near (by omega) (by omega) (by omega) h
    have := up this.2
    simp; omega

theorem Cnt_other {op a d b : Int} (ho : op < 18 ∨ op > 22) : Cnt op a d b = (0, false) := by
  unfold Cnt
  rw [if_neg (by omega), if_neg (by omega), if_neg (by omega), if_neg (by omega), if_neg (by omega)]

theorem ScevNear : distafflaw21_ScevNear.Pure := by
  intro op x y _ hx hy
  have mask (i : Nat) (hi : i ≤ 62) (z m p : Int) (hm : m = 2 ^ i - 1) (hp : p = 2 ^ i) : Go.bits .and .i64 z m = z % p := by subst hm; subst hp; exact i64_mask i hi z
  have e1 := mask 6 (by decide) x 63 64 rfl rfl
  have e2 := mask 3 (by decide) y 7 8 rfl rfl
  have e3 := mask 6 (by decide) (x / 64) 63 64 rfl rfl
  refine ⟨300, ?_⟩
  unfold distafflaw21_ScevNear.f
  rw [e1, e2, e3]
  have ed : wrap64 (y % 8 - 3) = y % 8 - 3 := by unfold wrap64; omega
  rw [ed]
  have hn : Near (x % 64) (y % 8 - 3) (x / 64 % 64) := ⟨by omega, by omega, by omega, by omega, by omega, by omega⟩
  generalize x % 64 = a at *
  generalize y % 8 - 3 = d at *
  generalize x / 64 % 64 = b at *
  have hn' := hn
  obtain ⟨a0, a1, d0, d1, b0, b1⟩ := hn
  rw [Count_eq 299 op a d b (by unfold in64; omega) (by unfold in64; omega) (by unfold in64; omega) (by unfold in64; omega)]
  simp only [Option.bind_some]
  by_cases ho : op < 18 ∨ op > 22
  · rw [Cnt_other ho]
    exact near_loop_other ho b d 0 200 300 a 0 (by omega) (by omega) (by omega)
  rcases hc : Cnt op a d b with ⟨n, ok⟩
  cases ok with
  | true =>
    have hl := Cnt_le hn' hc
    obtain ⟨h0, h1, hg⟩ := goes_of_Cnt (by unfold in64; omega) (by unfold in64; omega) hc
    have h2 := hg.pos
    have := near_loop h0 h1 hn' n true n (by omega) hg.yes (.inr hg.no) (by unfold ends; rw [if_neg (by omega), if_neg (by omega), if_pos (by omega)]; simp) n.toNat 300 0 (by omega) (by omega) (by omega)
    simpa using this
  | false =>
    have := near_loop (by omega) (by omega) hn' n false 200 (by omega) (fun k k0 _ => never hn' (by omega) (by omega) hc k k0) (.inl rfl) (by unfold ends; rw [if_neg (by omega), if_neg (by omega), if_neg (by omega)]; rfl) 200 300 0 (by omega) (by omega) (by omega)
    simpa using this
end Go.Proofs.Ytjnaccibipjoaaa.Pure
