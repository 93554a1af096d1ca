/- Walks over packages word and stats: the numbers. -/
import Derived.Test.YtppnaeedangndaaProg
import Derived.Test.YtppnaeedangndaaTypes
import Derived.Test.YtppnaeedangndaaReg
import Derived.Laws.BitsLemmas
import Derived.Outline
namespace Go.Proofs.Ytppnaeedangndaa
open Go.RowKit Go.Mm Go.Rg

theorem pow64 : (2 : Int) ^ 64 = 18446744073709551616 := by decide

theorem wraps_u64 (n : Int) (h0 : 0 ≤ n) (h1 : n < 2 ^ 64) : IntKind.u64.wrap n = n := by
  rw [pow64] at h1
  exact IntWalk.u64_in n ⟨h0, by omega⟩

theorem and_mask32 (x : Int) (h0 : 0 ≤ x) (h1 : x ≤ 4294967295) : bits BinOp.and IntKind.u64 x 4294967295 = x := by
  have := bits_mask .u64 64 (by decide) wraps_u64 32 (by decide) x h0 (by rw [pow64]; omega)
  rw [show ((2 : Int) ^ 32 - 1) = 4294967295 by decide] at this
  rw [this]
  omega

set_option maxHeartbeats 400000 in
theorem word_Wide_small (a b : Int) (w : World) (ha : 0 ≤ a) (hb : 0 ≤ b) (ha1 : a ≤ 4294967295) (hb1 : b ≤ 4294967295) (h0 : 0 ≤ a * b) (hab : a * b ≤ 4294967295) :
    Calls Try.prog 44 #[.int .i64 a, .int .i64 b] w fun e w' => e = .returned (.tuple #[.int .i64 0, .int .u64 (a * b)]) ∧ w = w' := by
  have e1 : a / 4294967296 = 0 := by omega
  have e2 : b / 4294967296 = 0 := by omega
  have e3 : a * b / 4294967296 = 0 := by omega
  have m1 := and_mask32 a ha ha1
  have m2 := and_mask32 b hb hb1
  have m0 := and_mask32 0 (by omega) (by omega)
  have d1 : decide (a < 0) = false := by simpa using ha
  have d2 : decide (b < 0) = false := by simpa using hb
  go_enter Try.func44, Try.ntmps44
  go_wp2
  go_ret2
  exact ⟨rfl, rfl⟩

set_option maxHeartbeats 400000 in
theorem word_Mul_small (a b : Int) (w : World) (ha : 1 ≤ a) (hb : 1 ≤ b) (ha1 : a ≤ 4294967295) (hb1 : b ≤ 4294967295) (h0 : 0 ≤ a * b) (hab : a * b ≤ 4294967295) :
    Calls Try.prog 35 #[.int .i64 a, .int .i64 b] w fun e w' => e = .returned (.int .i64 (a * b)) ∧ w = w' := by
  have d1 : (a == 0) = false := by rw [beq_eq_false_iff_ne]; omega
  have d2 : (b == 0) = false := by rw [beq_eq_false_iff_ne]; omega
  go_enter Try.func35, Try.ntmps35
  go_wp2_with (go_at_call 44; refine (word_Wide_small _ _ _ (by omega) (by omega) ha1 hb1 h0 hab).mono ?_; rintro e w' ⟨rfl, rfl⟩)
  go_ret
  exact ⟨rfl, rfl⟩

theorem ret_int {k : IntKind} {a b : Int} (h : a = b) : Ending.returned (.int k a) = .returned (.int k b) := by rw [h]

def addS (a b : Int) : Int := if 0 < b ∧ 9223372036854775807 - b < a then 9223372036854775807 else if b < 0 ∧ a < -9223372036854775808 - b then -9223372036854775808 else a + b

set_option maxHeartbeats 400000 in
theorem word_Add_pos (a b : Int) (w : World) (hb : 0 ≤ b) (ha : -9223372036854775808 ≤ a) (hab : a + b ≤ 9223372036854775807) (hb1 : b ≤ 9223372036854775807) :
    Calls Try.prog 33 #[.int .i64 a, .int .i64 b] w fun e w' => e = .returned (.int .i64 (a + b)) ∧ w = w' := by
  have d0 : ¬ (9223372036854775807 - b < a) := by omega
  have d1 : ¬ b < 0 := by omega
  by_cases h0 : 0 < b
  · go_enter Try.func33, Try.ntmps33
    go_wp2
    go_ret
    exact ⟨rfl, rfl⟩
  · go_enter Try.func33, Try.ntmps33
    go_wp2
    go_ret
    exact ⟨rfl, rfl⟩

def clampS (n low high : Int) : Int := if n < low then low else if high < n then high else n

set_option maxHeartbeats 400000 in
theorem word_Clamp (n low high : Int) (w : World) (hl : low < high) :
    Calls Try.prog 54 #[.int .i64 n, .int .i64 low, .int .i64 high] w fun e w' => e = .returned (.int .i64 (clampS n low high)) ∧ w = w' := by
  by_cases h1 : n < low
  · have e : clampS n low high = low := by unfold clampS; rw [if_pos h1]
    have h2 : n < high := by omega
    rw [e]
    clear e
    go_enter Try.func54, Try.ntmps54
    go_wp2
    all_goals (go_ret; exact ⟨rfl, rfl⟩)
  · by_cases h2 : high < n
    · have e : clampS n low high = high := by unfold clampS; rw [if_neg h1, if_pos h2]
      rw [e]
      clear e
      go_enter Try.func54, Try.ntmps54
      go_wp2
      all_goals (go_ret; exact ⟨rfl, rfl⟩)
    · have e : clampS n low high = n := by unfold clampS; rw [if_neg h1, if_neg h2]
      have h3 : low ≤ n := by omega
      have h4 : n ≤ high := by omega
      rw [e]
      clear e
      go_enter Try.func54, Try.ntmps54
      go_wp2
      all_goals (go_ret; first | exact ⟨rfl, rfl⟩ | exact ⟨ret_int (by omega), rfl⟩)

end Go.Proofs.Ytppnaeedangndaa
