/- HeapNil, run on the abstract heap: its arguments are unknowns. -/
import Derived.Test.YtbjmmkfaikkidaaGreatAvX
import Derived.Test.YtbjmmkfaikkidaaGreatProg
import Derived.ProofKit
namespace Go.Proofs.YtbjmmkfaikkidaaGreat
open Go.Av

def isTrue : Option (AV × St) → Bool
  | some (.b true, _) => true
  | _ => false
theorem isTrue_iff {r : Option (AV × St)} (h : isTrue r = true) : ∃ s, r = some (.b true, s) := by
  unfold isTrue at h
  split at h
  · exact ⟨_, rfl⟩
  · cases h

theorem nil_runq : isTrue (qF (cxOf Tryz.prog) 100000 9 [.uk 0, .ag [.uk 1, .uk 2], .uk 3] ⟨.e, 4⟩) = true := by kernel_rfl
theorem nil_run : isTrue (runF (cxOf Tryz.prog) 100000 9 [.uk 0, .ag [.uk 1, .uk 2], .uk 3] ⟨.e, 4⟩) = true := by
  rw [← qF_run]; exact nil_runq
end Go.Proofs.YtbjmmkfaikkidaaGreat
