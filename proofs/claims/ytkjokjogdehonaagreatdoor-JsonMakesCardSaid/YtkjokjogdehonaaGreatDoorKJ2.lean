/- Part KJ2 of a claim's texts, joined: what the claim needs of them. -/
import Derived.Test.YtkjokjogdehonaaGreatDoorKJ1
set_option linter.unusedSimpArgs false
set_option linter.unusedVariables false
namespace Go.Proofs.YtkjokjogdehonaaGreatDoor.Am.Q
open Go Go.Proofs Go.Proofs.YtkjokjogdehonaaGreatDoor.Am
theorem alive_run : retsTrue (run fT 20000 (.call 12 []) m0) = true := by kernel_rfl
theorem alive_ok (m : Mem) : CS 12 [] m (.ret (.bool true)) m := by
  obtain ⟨m', h⟩ := retsTrue_iff alive_run
  have h1 : CS 12 [] m0 (.ret (.bool true)) m' := run_sound xfok mixed fTok h
  exact call_alone gflat h1 (fun a ha => by cases ha) rfl m
end Go.Proofs.YtkjokjogdehonaaGreatDoor.Am.Q
