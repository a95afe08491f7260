/-
redresstop.wakes answers true: the kernel runs it on the plain machine.
-/
import Derived.Test.YtpgdfpcihamldaaGreatDoorK13
namespace Go.Proofs
open Go Go.Pm
noncomputable def saysTrue (r : Option (Pm.End × List ABlk)) : Bool := match r with
  | some (.ret (.bool b), _) => b
  | _ => false
theorem saysTrue_some {r : Option (Pm.End × List ABlk)} (h : saysTrue r = true) : ∃ H1, r = some (.ret (.bool true), H1) := by
  unfold saysTrue at h
  split at h
  · rename_i b H1
    subst h; exact ⟨_, rfl⟩
  · simp at h
set_option maxRecDepth 1000000
theorem wakes_true : saysTrue (callN Pt.env 1000 8 [] []) = true := by kernel_rfl
end Go.Proofs
