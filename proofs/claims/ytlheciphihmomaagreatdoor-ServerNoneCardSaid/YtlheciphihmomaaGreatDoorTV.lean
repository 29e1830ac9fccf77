/- ServerNone's program: the test of being awake, run. -/
import Derived.Test.YtlheciphihmomaaGreatDoorTU
set_option linter.all false
open Go Go.Sk Go.Proofs
namespace TS

def isTrue : Option (AE × List AO) → Bool
  | some (.ret (.d (.bool true)), _) => true
  | _ => false

theorem isTrue_ok {r : Option (AE × List AO)} (h : isTrue r = true) : ∃ V, r = some (.ret (.d (.bool true)), V) := by
  unfold isTrue at h; split at h <;> first | (cases h; done) | exact ⟨_, rfl⟩

theorem awake_runs : isTrue (runV Astd tb lib (look fis) 10000 (.fn 8 [] []) [] []) = true := by decide +kernel
end TS
