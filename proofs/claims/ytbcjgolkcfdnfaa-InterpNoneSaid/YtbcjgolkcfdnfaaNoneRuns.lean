import Derived.Test.YtbcjgolkcfdnfaaNoneAwake
/- The law, run by the kernel: with any fuel from 0 on, and with any below 0. No condition. -/
namespace Go.Proofs.Ytbcjgolkcfdnfaa.Lib
open Go Go.Proofs Go.Proofs.Ytbcjgolkcfdnfaa.Sim
set_option maxRecDepth 100000
theorem run5a (n : Nat) : isTrue (evFn Try.prog (Xt 13) 100000 60 5 [.int .i64 (.ofNat n)] ES.empty) = true := by kernel_rfl
theorem run5b (n : Nat) : isTrue (evFn Try.prog (Xt 13) 100000 60 5 [.int .i64 (.negSucc n)] ES.empty) = true := by kernel_rfl
theorem none_true (a : Int) : CallsX Try.prog 5 [.int .i64 a] ES.empty.toSt (fun r _ => r = .ret (.bool true)) := by
  cases a with
  | ofNat n =>
    obtain ⟨e, he⟩ := isTrue_spec (run5a n)
    exact evFn_sound mixed (Xt_sound awake6) 60 5 _ ES.empty _ e he _ rfl
  | negSucc n =>
    obtain ⟨e, he⟩ := isTrue_spec (run5b n)
    exact evFn_sound mixed (Xt_sound awake6) 60 5 _ ES.empty _ e he _ rfl
end Go.Proofs.Ytbcjgolkcfdnfaa.Lib
