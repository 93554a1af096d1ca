/- Walks over package path: which of two ways comes first. -/
import Derived.Test.YtppnaeedangndaaPathT
namespace Go.Proofs.Ytppnaeedangndaa
open Go.RowKit Go.Mm Go.Rg

/-- Is a way ahead of another one? -/
def aheadP (a b : PathS) : Bool := if stateOf a.quiet = stateOf b.quiet then betterS a b else decide (stateOf a.quiet < stateOf b.quiet)

theorem reads_stats {w : World} {b T o : Nat} {pre post : List Value} {p : PathS} (h : Seg w b T o pre p.cells post) : Reads w b o p.stats :=
  fun j hj => by
    have hj' : j < 5 := hj
    rw [Reads.of_seg h j (by rw [PathS.length_cells]; omega)]
    match j, hj' with
    | 0, _ => rfl
    | 1, _ => rfl
    | 2, _ => rfl
    | 3, _ => rfl
    | 4, _ => rfl

set_option maxRecDepth 100000 in
set_option maxHeartbeats 400000 in
theorem path_ahead (w : World) (b1 T1 o1 b2 T2 o2 : Nat) (pre1 post1 pre2 post2 : List Value) (p1 p2 : PathS) (h1 : Seg w b1 T1 o1 pre1 p1.cells post1) (h2 : Seg w b2 T2 o2 pre2 p2.cells post2) (k1 : p1.Ok) (k2 : p2.Ok) :
    Calls Try.prog 48 #[.pointer (some ⟨b1, o1, none⟩), .pointer (some ⟨b2, o2, none⟩)] w fun e w' => e = .returned (.bool (aheadP p1 p2)) ∧ Fr (fun _ => False) w w' := by
  have H1 := Lib.hid h1; have H2 := Lib.hid h2
  have B := Lib.hid (fun w => stats_Better p1 p2 w k1 k2)
  clear k1 k2
  obtain ⟨s1, hs1⟩ : ∃ s, s = stateOf p1.quiet := ⟨_, rfl⟩
  obtain ⟨s2, hs2⟩ : ∃ s, s = stateOf p2.quiet := ⟨_, rfl⟩
  by_cases hs : s1 = s2
  · have e : aheadP p1 p2 = betterS p1 p2 := by unfold aheadP; rw [if_pos (by rw [← hs1, ← hs2]; exact hs)]
    rw [e]
    clear e
    have HS1 := Lib.hid hs1; have HS2 := Lib.hid hs2
    clear h1 h2 hs1 hs2
    have hs' : (s1 == s2) = true := by simpa using hs
    clear hs
    go_enter Try.func48, Try.ntmps48
    go_upto_region 3 with first
      | (go_at_call 32; with_reducible refine (path_State _ b1 T1 o1 pre1 post1 p1 H1.out).mono ?_; rintro e w' ⟨rfl, rfl⟩; rw [← HS1.out])
      | (go_at_call 32; with_reducible refine (path_State _ b2 T2 o2 pre2 post2 p2 H2.out).mono ?_; rintro e w' ⟨rfl, rfl⟩; rw [← HS2.out])
    refine wp_region_T (by kernel_rfl) (fun _ => True) (fun k => [0, 0, 0, 1, 0, 0, 0, 1, 2, 0].getD k 0) (by kernel_rfl) trivial ?_
    iterate 3 (refine wpT_step (fun K hK => ?_); go_simp; refine hK _ _ ?_; clear hK K)
    refine wpT_load_agg rfl rfl 56 _ rfl b1 o1 rfl p1.stats (reads_stats H1.out).drew Try.underlying56 rfl sz_stats ?_
    iterate 3 (refine wpT_step (fun K hK => ?_); go_simp; refine hK _ _ ?_; clear hK K)
    refine wpT_load_agg rfl rfl 56 _ rfl b2 o2 rfl p2.stats (reads_stats H2.out).drew Try.underlying56 rfl sz_stats ?_
    refine wpT_step (fun K hK => ?_)
    go_simp
    refine (B.out _).mono ?_
    rintro e w1 ⟨rfl, hf1⟩
    refine hK _ _ ?_
    clear hK K
    iterate 1 (refine wpT_step (fun K hK => ?_); go_simp; refine hK _ _ ?_; clear hK K)
    refine wpT_nil ?_
    go_wp2
    go_ret
    exact ⟨rfl, (Fr.refl _ w).drew.trans hf1⟩
  · have e : aheadP p1 p2 = decide (s1 < s2) := by unfold aheadP; rw [if_neg (by rw [← hs1, ← hs2]; exact hs), hs1, hs2]
    rw [e]
    clear e
    have HS1 := Lib.hid hs1; have HS2 := Lib.hid hs2
    clear h1 h2 hs1 hs2
    have hs' : (s1 == s2) = false := by simpa using hs
    clear hs
    go_enter Try.func48, Try.ntmps48
    go_wp2_with first
      | (go_at_call 32; with_reducible refine (path_State _ b1 T1 o1 pre1 post1 p1 H1.out).mono ?_; rintro e w' ⟨rfl, rfl⟩; rw [← HS1.out])
      | (go_at_call 32; with_reducible refine (path_State _ b2 T2 o2 pre2 post2 p2 H2.out).mono ?_; rintro e w' ⟨rfl, rfl⟩; rw [← HS2.out])
    go_ret
    exact ⟨rfl, Fr.refl _ w⟩

end Go.Proofs.Ytppnaeedangndaa
