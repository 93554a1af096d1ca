/- Walks over package prio at datagrams: an item ahead of another. -/
import Derived.Test.YtppnaeedangndaaProg
import Derived.Test.YtppnaeedangndaaTypes
import Derived.Test.YtppnaeedangndaaReg
import Derived.Outline
namespace Go.Proofs.Ytppnaeedangndaa
open Go.RowKit Go.Mm

def ahead (a b : It) : Bool := decide (a.rank < b.rank) || (a.rank == b.rank && decide (a.turn < b.turn))

set_option maxHeartbeats 400000 in
theorem prio_ahead (x y : It) (w : World) :
    Calls Try.prog 41 #[.agg x.cells.toArray, .agg y.cells.toArray] w fun e w' => e = .returned (.bool (ahead x y)) ∧ Fr (fun _ => False) w w' := by
  by_cases h1 : x.rank < y.rank
  · have : ahead x y = true := by simp [ahead, h1]
    rw [this]
    unfold It.cells
    go_enter Try.func41, Try.ntmps41
    go_wp2
    go_ret
    exact ⟨rfl, ((Fr.refl _ _).alloc _).alloc _⟩
  · by_cases h2 : x.rank = y.rank
    · by_cases h3 : x.turn < y.turn
      · have : ahead x y = true := by simp [ahead, h2, h3]
        rw [this]
        unfold It.cells
        have h2' : (x.rank == y.rank) = true := by simpa using h2
        clear h2
        go_enter Try.func41, Try.ntmps41
        go_wp2
        go_ret
        exact ⟨rfl, ((Fr.refl _ _).alloc _).alloc _⟩
      · have : ahead x y = false := by simp [ahead, h2, h3]
        rw [this]
        unfold It.cells
        have h2' : (x.rank == y.rank) = true := by simpa using h2
        clear h2
        go_enter Try.func41, Try.ntmps41
        go_wp2
        go_ret
        exact ⟨rfl, ((Fr.refl _ _).alloc _).alloc _⟩
    · have : ahead x y = false := by simp [ahead, h1, h2]
      rw [this]
      unfold It.cells
      have h2' : (x.rank == y.rank) = false := by simpa using h2
      clear h2
      go_enter Try.func41, Try.ntmps41
      go_wp2
      go_ret
      exact ⟨rfl, ((Fr.refl _ _).alloc _).alloc _⟩

end Go.Proofs.Ytppnaeedangndaa
