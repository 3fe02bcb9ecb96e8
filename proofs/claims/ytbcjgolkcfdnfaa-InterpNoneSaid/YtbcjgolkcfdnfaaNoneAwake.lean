import Derived.Test.YtbcjgolkcfdnfaaSimLib
import Derived.KernelRfl
/- The law's own try of the program (a number that is printed, and a trap) comes to true: run by the kernel. No condition. -/
namespace Go.Proofs.Ytbcjgolkcfdnfaa.Lib
open Go Go.Proofs Go.Proofs.Ytbcjgolkcfdnfaa.Sim
set_option maxRecDepth 100000
theorem run13 : isTrue (evFn Try.prog Xs 100000 60 13 [] ES.empty) = true := by kernel_rfl
theorem awake6 (s : St) (R : Rt → St → Prop) (hr : R (.ret (.bool true)) s) : CallsX Try.prog 13 [] s R := by
  obtain ⟨e, he⟩ := isTrue_spec run13
  exact calls_closed (.bool true) (evFn_sound mixed Xs_sound 60 13 [] ES.empty _ e he _ rfl) hr
end Go.Proofs.Ytbcjgolkcfdnfaa.Lib
