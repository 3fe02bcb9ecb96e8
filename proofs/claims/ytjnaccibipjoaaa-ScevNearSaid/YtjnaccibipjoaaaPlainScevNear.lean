import Derived.Test.YtjnaccibipjoaaaArith
import Derived.Test.YtjnaccibipjoaaaPScevNearx2
namespace Go.Proofs.Ytjnaccibipjoaaa.PlainScevNear
open Go.RowKit Go.Proofs.Ytjnaccibipjoaaa.PScevNear Go.Proofs.YtjnaccibipjoaaaW.PrintWords Go.Proofs.YtjnaccibipjoaaaW.PrintLast Go.Proofs.Ytjnaccibipjoaaa.Arith

def in64 (x : Int) : Prop := -9223372036854775808 ≤ x ∧ x ≤ 9223372036854775807
instance (x : Int) : Decidable (in64 x) := by unfold in64; infer_instance

theorem in64_of_wf {x : Int} (h : (Lit.int .i64 x).wf = true) : in64 x := by
  have h2 := h
  simp only [Lit.wf, IntKind.min, IntKind.max, IntKind.signed, IntKind.bits, Bool.and_eq_true, decide_eq_true_eq] at h2
  unfold in64
  constructor
  · simpa using h2.1
  · have := h2.2
    simp at this
    omega

theorem mul64_high (a b : Int) (a0 : 0 ≤ a) (a1 : a < 18446744073709551616) (b0 : 0 ≤ b) (b1 : b < 18446744073709551616) :
    bits_Mul64.f a b = some (a * b / 18446744073709551616, a * b % 18446744073709551616) := by
  obtain ⟨x, rfl⟩ := Int.eq_ofNat_of_zero_le a0
  obtain ⟨y, rfl⟩ := Int.eq_ofNat_of_zero_le b0
  have hx : x < 18446744073709551616 := by omega
  have hy : y < 18446744073709551616 := by omega
  have H := mul_high x y
  have xl := Nat.mod_lt x (show 0 < 4294967296 by decide)
  have yl := Nat.mod_lt y (show 0 < 4294967296 by decide)
  have xh : x / 4294967296 ≤ 4294967295 := by omega
  have yh : y / 4294967296 ≤ 4294967295 := by omega
  have p00 : (x % 4294967296) * (y % 4294967296) ≤ 4294967295 * 4294967295 := Nat.mul_le_mul (by omega) (by omega)
  have p10 : (x / 4294967296) * (y % 4294967296) ≤ 4294967295 * 4294967295 := Nat.mul_le_mul xh (by omega)
  have p01 : (x % 4294967296) * (y / 4294967296) ≤ 4294967295 * 4294967295 := Nat.mul_le_mul (by omega) yh
  have p11 : (x / 4294967296) * (y / 4294967296) ≤ 4294967295 * 4294967295 := Nat.mul_le_mul xh yh
  simp only at H
  unfold bits_Mul64.f
  rw [u64_low a0 a1, u64_low b0 b1]
  have ex1 : (x : Int) / 4294967296 = ((x / 4294967296 : Nat) : Int) := by omega
  have ey1 : (y : Int) / 4294967296 = ((y / 4294967296 : Nat) : Int) := by omega
  have ex0 : (x : Int) % 4294967296 = ((x % 4294967296 : Nat) : Int) := by omega
  have ey0 : (y : Int) % 4294967296 = ((y % 4294967296 : Nat) : Int) := by omega
  rw [ex1, ey1, ex0, ey0]
  generalize x / 4294967296 = x1 at *
  generalize y / 4294967296 = y1 at *
  generalize x % 4294967296 = x0 at *
  generalize y % 4294967296 = y0 at *
  rw [← Int.natCast_mul, ← Int.natCast_mul, ← Int.natCast_mul, ← Int.natCast_mul, ← Int.natCast_mul]
  generalize x1 * y1 = q11 at *
  generalize x1 * y0 = q10 at *
  generalize x0 * y1 = q01 at *
  generalize x0 * y0 = q00 at *
  generalize x * y = q at *
  simp only [u64_mod]
  have e00 : (q00 : Int) % 18446744073709551616 = q00 := by omega
  have e10 : (q10 : Int) % 18446744073709551616 = q10 := by omega
  have e01 : (q01 : Int) % 18446744073709551616 = q01 := by omega
  have e11 : (q11 : Int) % 18446744073709551616 = q11 := by omega
  rw [e00, e10, e01, e11]
  have et : ((q10 : Int) + (q00 : Int) / 4294967296) % 18446744073709551616 = ((q10 + q00 / 4294967296 : Nat) : Int) := by omega
  rw [et, u64_low (by omega) (by omega)]
  congr 1
  refine Prod.ext ?_ rfl
  show _ = (q : Int) / 18446744073709551616
  have hq : (q : Int) / 18446744073709551616 = ((q / 18446744073709551616 : Nat) : Int) := by omega
  rw [hq, ← H]
  generalize q10 + q00 / 4294967296 = t at *
  omega

theorem product_eq (a b : Int) (ha : in64 a) (hb : in64 b) : arith_Product.f a b = some (wrap64 (a * b), decide (in64 (a * b))) := by
  obtain ⟨a0, a1⟩ := ha
  obtain ⟨b0, b1⟩ := hb
  unfold arith_Product.f
  rw [u64_mod, u64_mod]
  rw [mul64_high _ _ (by omega) (by omega) (by omega) (by omega)]
  simp only [Option.bind_some]
  have key : ∀ (H P Q : Int), Q = P → (in64 P → H = P / 18446744073709551616) → -85070591730234615865843651857942052864 ≤ P → P ≤ 85070591730234615865843651857942052864 → H = P / 18446744073709551616 →
      (H == (wrap64 (Q % 18446744073709551616)) / 9223372036854775808) = decide (in64 P) := by
    intro H P Q hQ _ p0 p1 hH
    subst hQ
    rw [hH, Bool.eq_iff_iff, beq_iff_eq, decide_eq_true_iff]
    unfold in64 wrap64
    constructor <;> intro h <;> omega
  have hP0 : -85070591730234615865843651857942052864 ≤ a * b ∧ a * b ≤ 85070591730234615865843651857942052864 := by
    have h : (a * b).natAbs ≤ 9223372036854775808 * 9223372036854775808 := by
      rw [Int.natAbs_mul]; exact Nat.mul_le_mul (by omega) (by omega)
    omega
  have hw : ∀ Q : Int, Q % 18446744073709551616 = (a * b) % 18446744073709551616 → wrap64 (Q % 18446744073709551616) = wrap64 (a * b) := by
    intro Q hQ; rw [hQ]; unfold wrap64; omega
  by_cases na : a < 0 <;> by_cases nb : b < 0
  · have ea : a % 18446744073709551616 = a + 18446744073709551616 := by omega
    have eb : b % 18446744073709551616 = b + 18446744073709551616 := by omega
    rw [ea, eb]
    have e : (a + 18446744073709551616) * (b + 18446744073709551616) = a * b + 18446744073709551616 * (a + b + 18446744073709551616) := by
      rw [Int.add_mul, Int.mul_add, Int.mul_add]; omega
    rw [e]
    generalize a * b = P at *
    have hm : (P + 18446744073709551616 * (a + b + 18446744073709551616)) % 18446744073709551616 = P % 18446744073709551616 := by omega
    have hd : (P + 18446744073709551616 * (a + b + 18446744073709551616)) / 18446744073709551616 = P / 18446744073709551616 + (a + b + 18446744073709551616) := by omega
    rw [if_pos na, if_pos nb, hm, hd]
    congr 1
    refine Prod.ext (hw P rfl) ?_
    exact key _ P P rfl (fun _ => by unfold wrap64; omega) hP0.1 hP0.2 (by unfold wrap64; omega)
  · have ea : a % 18446744073709551616 = a + 18446744073709551616 := by omega
    have eb : b % 18446744073709551616 = b := by omega
    rw [ea, eb]
    have e : (a + 18446744073709551616) * b = a * b + 18446744073709551616 * b := by rw [Int.add_mul]
    rw [e]
    generalize a * b = P at *
    have hm : (P + 18446744073709551616 * b) % 18446744073709551616 = P % 18446744073709551616 := by omega
    have hd : (P + 18446744073709551616 * b) / 18446744073709551616 = P / 18446744073709551616 + b := by omega
    rw [if_pos na, if_neg nb, hm, hd]
    congr 1
    refine Prod.ext (hw P rfl) ?_
    exact key _ P P rfl (fun _ => by unfold wrap64; omega) hP0.1 hP0.2 (by unfold wrap64; omega)
  · have ea : a % 18446744073709551616 = a := by omega
    have eb : b % 18446744073709551616 = b + 18446744073709551616 := by omega
    rw [ea, eb]
    have e : a * (b + 18446744073709551616) = a * b + 18446744073709551616 * a := by rw [Int.mul_add]; omega
    rw [e]
    generalize a * b = P at *
    have hm : (P + 18446744073709551616 * a) % 18446744073709551616 = P % 18446744073709551616 := by omega
    have hd : (P + 18446744073709551616 * a) / 18446744073709551616 = P / 18446744073709551616 + a := by omega
    rw [if_neg na, if_pos nb, hm, hd]
    congr 1
    refine Prod.ext (hw P rfl) ?_
    exact key _ P P rfl (fun _ => by unfold wrap64; omega) hP0.1 hP0.2 (by unfold wrap64; omega)
  · have ea : a % 18446744073709551616 = a := by omega
    have eb : b % 18446744073709551616 = b := by omega
    rw [ea, eb]
    generalize a * b = P at *
    rw [if_neg na, if_neg nb]
    congr 1
    refine Prod.ext (hw P rfl) ?_
    exact key _ P P rfl (fun _ => by unfold wrap64; omega) hP0.1 hP0.2 (by unfold wrap64; omega)

theorem sum_eq (a b : Int) (ha : in64 a) (hb : in64 b) : arith_Sum.f a b = some (wrap64 (a + b), decide (in64 (a + b))) := by
  unfold arith_Sum.f in64
  rw [sum_sign ha.1 ha.2 hb.1 hb.2]

/-- How often a number that begins so, and goes on so, is below another one. -/
def cnt (a s b : Int) : Int × Bool :=
  if a ≥ b then (0, true) else if s ≤ 0 then (0, false) else
  if in64 (a + s * ((b - a - 1) / s + 1)) ∧ in64 (s * ((b - a - 1) / s + 1)) ∧ (b - a - 1) / s + 1 ≤ 4611686018427387904 then ((b - a - 1) / s + 1, true) else (0, false)

theorem count_eq (k : Nat) (a s b : Int) (ha : in64 a) (hs : in64 s) (hb : in64 b) : scev_count.f (k + 1) a s b = some (cnt a s b) := by
  unfold scev_count.f cnt
  by_cases h1 : a ≥ b
  · rw [if_pos h1, if_pos h1]
  rw [if_neg h1, if_neg h1]
  by_cases h2 : s ≤ 0
  · rw [if_pos h2, if_pos h2]
  rw [if_neg h2, if_neg h2]
  obtain ⟨a0, a1⟩ := ha
  obtain ⟨s0, s1⟩ := hs
  obtain ⟨b0, b1⟩ := hb
  have es : IntKind.u64.wrap s = s := by rw [u64_mod]; omega
  have ef : IntKind.u64.wrap (IntKind.u64.wrap (IntKind.u64.wrap b - IntKind.u64.wrap a) - 1) = b - a - 1 := by simp only [u64_mod]; omega
  rw [ef, es, if_neg (by omega)]
  have hq0 : 0 ≤ (b - a - 1) / s := Int.ediv_nonneg (by omega) (by omega)
  have hq1 : (b - a - 1) / s ≤ b - a - 1 := Int.ediv_le_self _ (by omega)
  rw [Int.tdiv_eq_ediv_of_nonneg (by omega)]
  have eq1 : IntKind.u64.wrap ((b - a - 1) / s) = (b - a - 1) / s := by rw [u64_mod]; omega
  have eq2 : IntKind.u64.wrap ((b - a - 1) / s + 1) = (b - a - 1) / s + 1 := by rw [u64_mod]; omega
  rw [eq1, eq2]
  have hn0 : 1 ≤ (b - a - 1) / s + 1 := by omega
  generalize (b - a - 1) / s + 1 = n at *
  have hw : in64 (wrap64 n) := by unfold in64 wrap64; omega
  rw [product_eq s (wrap64 n) ⟨s0, s1⟩ hw]
  simp only [Option.bind_some]
  by_cases h3 : n > 4611686018427387904
  · rw [if_pos h3, if_neg (by omega)]
    simp only [scev_count.j0]
    rfl
  rw [if_neg h3]
  have en : wrap64 n = n := by unfold wrap64; omega
  rw [en]
  by_cases h4 : in64 (s * n)
  · have e4 : wrap64 (s * n) = s * n := by unfold in64 at h4; unfold wrap64; omega
    rw [decide_eq_true h4, e4]
    simp only [scev_count.j0]
    rw [if_neg (show ¬((!true) = true) from by decide), sum_eq a (s * n) ⟨a0, a1⟩ h4]
    simp only [Option.bind_some]
    by_cases h5 : in64 (a + s * n)
    · rw [if_pos (by simpa using h5), if_pos ⟨h5, h4, by omega⟩, en]
    · rw [if_neg (by simpa using h5), if_neg (fun h => h5 h.1)]
  · rw [decide_eq_false h4, if_neg (fun h => h4 h.2.1)]
    simp only [scev_count.j0]
    rfl

/-- What a count that is told says: the sum does not go round, and is below till then. -/
theorem cnt_says {a s b n : Int} (h : cnt a s b = (n, true)) : 0 ≤ n ∧ (n = 0 ∨ 0 < s ∧ in64 (a + s * n)) ∧ b ≤ a + s * n ∧ ∀ k, 0 ≤ k → k < n → a + s * k < b := by
  unfold cnt at h
  by_cases h1 : a ≥ b
  · rw [if_pos h1] at h
    simp only [Prod.mk.injEq, and_true] at h
    subst h
    exact ⟨Int.le_refl _, .inl rfl, by omega, fun k _ _ => by omega⟩
  rw [if_neg h1] at h
  by_cases h2 : s ≤ 0
  · rw [if_pos h2] at h; simp at h
  rw [if_neg h2] at h
  split at h
  · rename_i h3
    simp only [Prod.mk.injEq, and_true] at h
    have hq0 : 0 ≤ (b - a - 1) / s := Int.ediv_nonneg (by omega) (by omega)
    have hd := Int.mul_ediv_add_emod (b - a - 1) s
    have hm0 := Int.emod_nonneg (b - a - 1) (show s ≠ 0 by omega)
    have hm1 := Int.emod_lt_of_pos (b - a - 1) (show 0 < s by omega)
    have en : s * n = s * ((b - a - 1) / s) + s := by rw [← h, Int.mul_add, Int.mul_one]
    refine ⟨by omega, .inr ⟨by omega, by rw [← h]; exact h3.1⟩, by omega, fun k k0 k1 => ?_⟩
    have : s * k ≤ s * ((b - a - 1) / s) := Int.mul_le_mul_of_nonneg_left (by omega) (by omega)
    omega
  · simp at h

theorem cnt_false {a s b n : Int} (h : cnt a s b = (n, false)) : n = 0 ∧ a < b := by
  unfold cnt at h
  split at h
  · simp at h
  · split at h
    · simp only [Prod.mk.injEq, and_true] at h; omega
    · split at h
      · simp at h
      · simp only [Prod.mk.injEq, and_true] at h; omega

/-- The count of a test. -/
def Cnt (op a s b : Int) : Int × Bool :=
  if op = 19 then cnt a s b
  else if op = 20 then (if b + 1 ≤ 9223372036854775807 then cnt a s (b + 1) else (0, false))
  else if op = 21 then cnt (-1 - a) (-s) (-1 - b)
  else if op = 22 then (if -b ≤ 9223372036854775807 then cnt (-1 - a) (-s) (-b) else (0, false))
  else if op = 18 then
    if a = b then (0, true)
    else if a < b then (if (cnt a s b).2 = true ∧ wrap64 (a + wrap64 (s * (cnt a s b).1)) = b then ((cnt a s b).1, true) else (0, false))
    else (if (cnt (-1 - a) (-s) (-1 - b)).2 = true ∧ wrap64 (a + wrap64 (s * (cnt (-1 - a) (-s) (-1 - b)).1)) = b then ((cnt (-1 - a) (-s) (-1 - b)).1, true) else (0, false))
  else (0, false)

theorem Count_eq (k : Nat) (op a s b : Int) (ha : in64 a) (hs : in64 s) (hs' : in64 (-s)) (hb : in64 b) : scev_Count.f (k + 1) op a s b = some (Cnt op a s b) := by
  unfold scev_Count.f Cnt
  have hna : in64 (-1 - a) := by unfold in64 at *; omega
  have hnb : in64 (-1 - b) := by unfold in64 at *; omega
  have hws : wrap64 (-s) = -s := by unfold in64 at hs'; unfold wrap64; omega
  rw [xor_neg_one ha.1 ha.2, xor_neg_one hb.1 hb.2, hws]
  by_cases h19 : op = 19
  · rw [if_pos h19, if_pos h19, count_eq k a s b ha hs hb]; rfl
  rw [if_neg h19, if_neg h19]
  by_cases h20 : op = 20
  · rw [if_pos h20, if_pos h20, sum_eq b 1 hb (by decide)]
    simp only [Option.bind_some]
    by_cases h : b + 1 ≤ 9223372036854775807
    · have hin : in64 (b + 1) := by unfold in64 at *; omega
      have e : wrap64 (b + 1) = b + 1 := by unfold in64 at hin; unfold wrap64; omega
      rw [if_pos (by simpa using hin), if_pos h, e, count_eq k a s (b + 1) ha hs hin]; rfl
    · rw [if_neg (by rw [decide_eq_true_iff]; unfold in64; omega), if_neg h]
  rw [if_neg h20, if_neg h20]
  by_cases h21 : op = 21
  · rw [if_pos h21, if_pos h21, count_eq k _ _ _ hna hs' hnb]; rfl
  rw [if_neg h21, if_neg h21]
  by_cases h22 : op = 22
  · rw [if_pos h22, if_pos h22, sum_eq (-1 - b) 1 hnb (by decide)]
    simp only [Option.bind_some]
    have eb : -1 - b + 1 = -b := by omega
    rw [eb]
    by_cases h : -b ≤ 9223372036854775807
    · have hin : in64 (-b) := by unfold in64 at *; omega
      have e : wrap64 (-b) = -b := by unfold in64 at hin; unfold wrap64; omega
      rw [if_pos (by simpa using hin), if_pos h, e, count_eq k _ _ _ hna hs' hin]; rfl
    · rw [if_neg (by rw [decide_eq_true_iff]; unfold in64; omega), if_neg h]
  rw [if_neg h22, if_neg h22]
  by_cases h18 : op = 18
  · rw [if_pos h18, if_pos h18]
    by_cases e : a = b
    · rw [if_pos e, if_pos e]
    rw [if_neg e, if_neg e]
    by_cases l : a < b
    · rw [if_pos l, if_pos l, count_eq k a s b ha hs hb]
      simp only [Option.bind_some]
      by_cases c : (cnt a s b).2 = true
      · rw [if_pos c]
        by_cases d : wrap64 (a + wrap64 (s * (cnt a s b).1)) = b
        · rw [if_pos d, if_pos ⟨c, d⟩]
        · rw [if_neg d, if_neg (fun h => d h.2)]
      · rw [if_neg c, if_neg (fun h => c h.1)]
    · rw [if_neg l, if_neg l, count_eq k _ _ _ hna hs' hnb]
      simp only [Option.bind_some]
      by_cases c : (cnt (-1 - a) (-s) (-1 - b)).2 = true
      · rw [if_pos c]
        by_cases d : wrap64 (a + wrap64 (s * (cnt (-1 - a) (-s) (-1 - b)).1)) = b
        · rw [if_pos d, if_pos ⟨c, d⟩]
        · rw [if_neg d, if_neg (fun h => d h.2)]
      · rw [if_neg c, if_neg (fun h => c h.1)]
  · rw [if_neg h18, if_neg h18]

theorem awake_eq (k : Nat) : distafflaw21_awake.f (k + 1) = some true := by
  unfold distafflaw21_awake.f
  rw [Count_eq k 19 0 2 5 (by decide) (by decide) (by decide) (by decide)]
  decide +kernel

/-- What a test says. -/
def tells (op a b : Int) : Bool :=
  if op = 18 then a != b else if op = 19 then decide (a < b) else if op = 20 then decide (a ≤ b) else if op = 21 then decide (a > b) else decide (a ≥ b)

theorem plain_eq (op a b : Int) (h0 : 18 ≤ op) (h1 : op ≤ 22) : distaffref01_Plain.f op a b = some (if tells op a b then 1 else 0, true) := by
  have h : op = 18 ∨ op = 19 ∨ op = 20 ∨ op = 21 ∨ op = 22 := by omega
  unfold distaffref01_Plain.f distaffref01_one.f tells
  rcases h with rfl | rfl | rfl | rfl | rfl
  all_goals
    simp only [show (18 : Int) ≠ 19 from by decide, reduceIte, Int.reduceEq]
    split <;> rfl

theorem cnt_in {a s b : Int} : 0 ≤ (cnt a s b).1 ∧ (cnt a s b).1 ≤ 4611686018427387904 := by
  unfold cnt
  split
  · decide
  · split
    · decide
    · split
      · rename_i h1 h2 h3
        have hq0 : 0 ≤ (b - a - 1) / s := Int.ediv_nonneg (by omega) (by omega)
        exact ⟨by show 0 ≤ (b - a - 1) / s + 1; omega, h3.2.2⟩
      · decide

/-- What the steps of a told count say: each but the last one goes on. -/
structure Goes (op a s b n : Int) : Prop where
  pos : 0 ≤ n
  inn : ∀ k, 0 ≤ k → k ≤ n → in64 (a + s * k)
  yes : ∀ k, 0 ≤ k → k < n → tells op (a + s * k) b = true
  no : tells op (a + s * n) b = false

theorem between {a s n k : Int} (ha : in64 a) (hn : in64 (a + s * n)) (k0 : 0 ≤ k) (k1 : k ≤ n) : in64 (a + s * k) := by
  unfold in64 at *
  by_cases h : 0 ≤ s
  · have h1 : s * k ≤ s * n := Int.mul_le_mul_of_nonneg_left k1 h
    have h2 : 0 ≤ s * k := Int.mul_nonneg h k0
    omega
  · have h1 : (-s) * k ≤ (-s) * n := Int.mul_le_mul_of_nonneg_left k1 (by omega)
    have h2 : 0 ≤ (-s) * k := Int.mul_nonneg (by omega) k0
    rw [Int.neg_mul] at h1 h2
    rw [Int.neg_mul] at h1
    omega

theorem goes_of_cnt {a s b n : Int} (ha : in64 a) (h : cnt a s b = (n, true)) : (0 ≤ n) ∧ in64 (a + s * n) ∧ b ≤ a + s * n ∧ ∀ k, 0 ≤ k → k < n → a + s * k < b := by
  obtain ⟨h0, h1, h2, h3⟩ := cnt_says h
  refine ⟨h0, ?_, h2, h3⟩
  rcases h1 with rfl | h1
  · simpa using ha
  · exact h1.2

theorem turn_mul (a s k : Int) : -1 - a + -s * k = -1 - (a + s * k) := by rw [Int.neg_mul]; omega

theorem in64_not {x : Int} (h : in64 (-1 - x)) : in64 x := by unfold in64 at *; omega
theorem not_in64 {x : Int} (h : in64 x) : in64 (-1 - x) := by unfold in64 at *; omega

theorem goes_of_Cnt {op a s b n : Int} (ha : in64 a) (hb : in64 b) (h : Cnt op a s b = (n, true)) : 18 ≤ op ∧ op ≤ 22 ∧ Goes op a s b n := by
  unfold Cnt at h
  by_cases h19 : op = 19
  · rw [if_pos h19] at h; subst h19
    obtain ⟨h0, h1, h2, h3⟩ := goes_of_cnt ha h
    refine ⟨by decide, by decide, h0, fun k k0 k1 => between ha h1 k0 k1, fun k k0 k1 => ?_, ?_⟩
    · unfold tells; simpa using h3 k k0 k1
    · unfold tells; simpa using h2
  rw [if_neg h19] at h
  by_cases h20 : op = 20
  · rw [if_pos h20] at h; subst h20
    split at h
    · obtain ⟨h0, h1, h2, h3⟩ := goes_of_cnt ha h
      refine ⟨by decide, by decide, h0, fun k k0 k1 => between ha h1 k0 k1, fun k k0 k1 => ?_, ?_⟩
      · unfold tells; have := h3 k k0 k1; simp; omega
      · unfold tells; simp; omega
    · simp at h
  rw [if_neg h20] at h
  by_cases h21 : op = 21
  · rw [if_pos h21] at h; subst h21
    obtain ⟨h0, h1, h2, h3⟩ := goes_of_cnt (not_in64 ha) h
    rw [turn_mul] at h1 h2
    refine ⟨by decide, by decide, h0, fun k k0 k1 => between ha (in64_not h1) k0 k1, fun k k0 k1 => ?_, ?_⟩
    · unfold tells; have := h3 k k0 k1; rw [turn_mul] at this; simp; omega
    · unfold tells; simp; omega
  rw [if_neg h21] at h
  by_cases h22 : op = 22
  · rw [if_pos h22] at h; subst h22
    split at h
    · obtain ⟨h0, h1, h2, h3⟩ := goes_of_cnt (not_in64 ha) h
      rw [turn_mul] at h1 h2
      refine ⟨by decide, by decide, h0, fun k k0 k1 => between ha (in64_not h1) k0 k1, fun k k0 k1 => ?_, ?_⟩
      · unfold tells; have := h3 k k0 k1; rw [turn_mul] at this; simp; omega
      · unfold tells; simp; omega
    · simp at h
  rw [if_neg h22] at h
  by_cases h18 : op = 18
  · rw [if_pos h18] at h; subst h18
    by_cases e : a = b
    · rw [if_pos e] at h
      simp only [Prod.mk.injEq, and_true] at h
      subst h; subst e
      exact ⟨by decide, by decide, Int.le_refl _, fun k k0 k1 => by rw [show k = 0 from by omega]; simpa using ha, fun k k0 k1 => by omega, by unfold tells; simp⟩
    rw [if_neg e] at h
    by_cases l : a < b
    · rw [if_pos l] at h
      split at h
      · rename_i c
        simp only [Prod.mk.injEq, and_true] at h
        have hc : cnt a s b = (n, true) := Prod.ext h c.1
        rw [h] at c
        obtain ⟨h0, h1, h2, h3⟩ := goes_of_cnt ha hc
        refine ⟨by decide, by decide, h0, fun k k0 k1 => between ha h1 k0 k1, fun k k0 k1 => ?_, ?_⟩
        · unfold tells; have := h3 k k0 k1; simp; omega
        · have hx : a + s * n = b := by have := c.2; unfold in64 at h1 hb; unfold wrap64 at this; omega
          unfold tells; simp [hx]
      · simp at h
    · rw [if_neg l] at h
      split at h
      · rename_i c
        simp only [Prod.mk.injEq, and_true] at h
        have hc : cnt (-1 - a) (-s) (-1 - b) = (n, true) := Prod.ext h c.1
        rw [h] at c
        obtain ⟨h0, h1, h2, h3⟩ := goes_of_cnt (not_in64 ha) hc
        rw [turn_mul] at h1 h2
        have h1 := in64_not h1
        refine ⟨by decide, by decide, h0, fun k k0 k1 => between ha h1 k0 k1, fun k k0 k1 => ?_, ?_⟩
        · unfold tells; have := h3 k k0 k1; rw [turn_mul] at this; simp; omega
        · have hx : a + s * n = b := by have := c.2; unfold in64 at h1 hb; unfold wrap64 at this; omega
          unfold tells; simp [hx]
      · simp at h
  · rw [if_neg h18] at h; simp at h

theorem Cnt_false {op a s b n : Int} (h : Cnt op a s b = (n, false)) : n = 0 := by
  unfold Cnt at h
  repeat' split at h
  all_goals first
    | exact (cnt_false h).1
    | (simp only [Prod.mk.injEq, and_true] at h; exact h.symm)
    | (simp at h; done)
    | (simp at h; exact h.symm)
end Go.Proofs.Ytjnaccibipjoaaa.PlainScevNear
