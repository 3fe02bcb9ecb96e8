/- ScevCounts: for every operation, beginning and step, where Count tells how often a test goes on, the test goes on just as often, one by one, and fails behind. No condition. -/
import Derived.Test.YtjnaccibipjoaaaPScevCountsx2
import Derived.Test.YtjnaccibipjoaaaPlainScevCounts
namespace Go.Proofs.Ytjnaccibipjoaaa.Pure
open Go.RowKit Go.Proofs.Ytjnaccibipjoaaa.PScevCounts Go.Proofs.YtjnaccibipjoaaaW.PrintWords Go.Proofs.YtjnaccibipjoaaaW.PrintLast Go.Proofs.Ytjnaccibipjoaaa.Arith Go.Proofs.Ytjnaccibipjoaaa.PlainScevCounts

theorem counts_loop {op a d b n : Int} (h0 : 18 ≤ op) (h1 : op ≤ 22) (hg : Goes op a d b n) (hn : n ≤ 5000) (m : Nat) :
    ∀ (K : Nat) (k : Int), 0 ≤ k → k + m = n → m < K → distafflaw21_ScevCounts.l0 K op b d n (a + d * k) k = some true := by
  induction m with
  | zero =>
    intro K k k0 km hK
    obtain ⟨K, rfl⟩ : ∃ j, K = j + 1 := ⟨K - 1, by omega⟩
    obtain rfl : k = n := by omega
    simp only [distafflaw21_ScevCounts.l0]
    rw [if_neg (by omega), plain_eq op _ b h0 h1, hg.no]
    rfl
  | succ m ih =>
    intro K k k0 km hK
    obtain ⟨K, rfl⟩ : ∃ j, K = j + 1 := ⟨K - 1, by omega⟩
    simp only [distafflaw21_ScevCounts.l0]
    rw [if_pos (by omega), plain_eq op _ b h0 h1, hg.yes k k0 (by omega)]
    simp only [Option.bind_some, if_true]
    have e1 : wrap64 (k + 1) = k + 1 := by unfold wrap64; omega
    have e2 : wrap64 (a + d * k + d) = a + d * (k + 1) := by
      have h := hg.inn (k + 1) (by omega) (by omega)
      rw [Int.mul_add, Int.mul_one] at h ⊢
      unfold in64 at h
      unfold wrap64; omega
    rw [e1, e2]
    exact ih K (k + 1) (by omega) (by omega) (by omega)

theorem ScevCounts : distafflaw21_ScevCounts.Pure := by
  intro op a x _ ha hx
  have ha := in64_of_wf ha
  have hx := in64_of_wf hx
  obtain ⟨x0, x1⟩ := hx
  have hd0 : -524288 ≤ wrap64 (x * 17592186044416) / 17592186044416 ∧ wrap64 (x * 17592186044416) / 17592186044416 ≤ 524287 := by unfold wrap64; omega
  have hd : in64 (wrap64 (x * 17592186044416) / 17592186044416) := by unfold in64; omega
  have hd' : in64 (-(wrap64 (x * 17592186044416) / 17592186044416)) := by unfold in64; omega
  have hb : in64 (x / 1048576) := by unfold in64; omega
  refine ⟨5010, ?_⟩
  unfold distafflaw21_ScevCounts.f
  generalize wrap64 (x * 17592186044416) / 17592186044416 = d at *
  generalize x / 1048576 = b at *
  rw [Count_eq 5009 op a d b ha hd hd' hb, awake_eq 5009]
  simp only [Option.bind_some, if_true]
  rcases hc : Cnt op a d b with ⟨n, ok⟩
  cases ok with
  | false =>
    obtain rfl := Cnt_false hc
    simp only [Bool.false_eq_true, if_false, distafflaw21_ScevCounts.j0, if_true]
    rw [awake_eq 5008]
    rfl
  | true =>
    obtain ⟨h0, h1, hg⟩ := goes_of_Cnt ha hb hc
    simp only [if_true]
    by_cases hn : n > 5000
    · rw [decide_eq_true hn]
      simp only [distafflaw21_ScevCounts.j0, if_true]
      rw [awake_eq 5008]
      rfl
    · rw [decide_eq_false hn]
      simp only [distafflaw21_ScevCounts.j0, Bool.false_eq_true, if_false]
      have := counts_loop h0 h1 hg (by omega) n.toNat 5009 0 (Int.le_refl _) (by have := hg.pos; omega) (by omega)
      simpa using this
end Go.Proofs.Ytjnaccibipjoaaa.Pure
