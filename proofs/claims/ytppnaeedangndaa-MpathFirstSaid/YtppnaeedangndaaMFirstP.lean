/- MpathFirst: outside its sizes. -/
import Derived.Test.YtppnaeedangndaaMFirst
namespace Go.Proofs.Ytppnaeedangndaa
open Go.RowKit Go.Mm Go.Rg

set_option maxRecDepth 100000 in
set_option maxHeartbeats 1600000 in
theorem law15_First_no (w : World) (rate burst room : Int) (a : Option Addr) (n c : Nat) (hn : n ≤ 9223372036854775807) (h : ¬ (1 ≤ rate ∧ rate ≤ 100000 ∧ 1 ≤ burst ∧ burst ≤ 100000 ∧ n ≤ 100)) :
    Calls Try.prog 3 #[.agg #[.int .i64 rate, .int .i64 burst, .int .i64 room], .slice a n c] w fun e w' => e = .returned (.bool true) ∧ Fr (fun _ => False) w w' := by
  have hp : rate < 1 ∨ (1 ≤ rate ∧ 100000 < rate) ∨ (1 ≤ rate ∧ rate ≤ 100000 ∧ burst < 1) ∨ (1 ≤ rate ∧ rate ≤ 100000 ∧ 1 ≤ burst ∧ 100000 < burst) ∨ (1 ≤ rate ∧ rate ≤ 100000 ∧ 1 ≤ burst ∧ burst ≤ 100000 ∧ 100 < n) := by omega
  clear h
  rcases hp with h1 | ⟨h1, h2⟩ | ⟨h1, h2, h3⟩ | ⟨h1, h2, h3, h4⟩ | ⟨h1, h2, h3, h4, h5⟩
  all_goals
    go_enter Try.func3, Try.ntmps3
    go_upto_region 3 with (go_at_call 5; refine (law15_awake _).mono ?_; rintro e w1 ⟨rfl, hf1⟩)
    have hz1 : Blk w1 w.heap.size 23 [.int .i64 rate, .int .i64 burst, .int .i64 room] := Blk.keep (S := fun _ => False) (Blk.new w _ _) hf1 (fun e => e)
    have k0 : w1.cell? ⟨w.heap.size, 0, none⟩ = some (.int .i64 rate) := hz1.cell 0
    have k1 : w1.cell? ⟨w.heap.size, 1, none⟩ = some (.int .i64 burst) := hz1.cell 1
    have HF1 := Lib.hid (((Fr.refl (fun _ => False) w).alloc (.cells #[.int .i64 rate, .int .i64 burst, .int .i64 room] 23)).trans hf1)
    clear hf1 hz1
    go_wp2
    go_ret
    exact ⟨rfl, HF1.out⟩

end Go.Proofs.Ytppnaeedangndaa
