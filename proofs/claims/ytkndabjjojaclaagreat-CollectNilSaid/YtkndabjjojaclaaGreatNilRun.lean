/- CollectNil, run on the abstract heap: closed but for its arguments. -/
import Derived.Test.YtkndabjjojaclaaGreatAvW
import Derived.Test.YtkndabjjojaclaaGreatProg
import Derived.ProofKit
namespace Go.Proofs.YtkndabjjojaclaaGreat
open Go.Av

def isTrue : Option (AV × St) → Bool
  | some (.b true, _) => true
  | _ => false
theorem isTrue_iff {r : Option (AV × St)} (h : isTrue r = true) : ∃ s, r = some (.b true, s) := by
  unfold isTrue at h
  split at h
  · exact ⟨_, rfl⟩
  · cases h

theorem nil_run (h n T N : Int) : isTrue (runF (cxOf Tryz.prog) 100000 5 [.i .i64 h, .i .i64 n, .ag [.i .i64 T, .i .i64 N]] ⟨.e, 0⟩) = true := by kernel_rfl
end Go.Proofs.YtkndabjjojaclaaGreat
