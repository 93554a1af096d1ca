/- Walks over packages stats and path: how good a way is, how it is, which comes first, its number. -/
import Derived.Test.YtppnaeedangndaaNum
import Derived.Test.YtppnaeedangndaaLaws2
namespace Go.Proofs.Ytppnaeedangndaa
open Go.RowKit Go.Mm Go.Rg

def scoreS (loss rtt : Int) : Int := (65536 - clampS loss 0 65535) * 64 / (64 + max rtt 0)

theorem clampS_bounds (n low high : Int) (h : low ≤ high) : low ≤ clampS n low high ∧ clampS n low high ≤ high := by
  unfold clampS
  split
  · omega
  · split <;> omega

set_option maxHeartbeats 400000 in
theorem stats_Score (loss rtt var marks trips : Int) (w : World) (hr : 0 ≤ rtt) (hr1 : rtt ≤ 1000000000) :
    Calls Try.prog 53 #[.agg #[.int .i64 loss, .int .i64 rtt, .int .i64 var, .int .i64 marks, .int .i64 trips]] w fun e w' => e = .returned (.int .i64 (scoreS loss rtt)) ∧ Fr (fun _ => False) w w' := by
  obtain ⟨c1, c2⟩ := clampS_bounds loss 0 65535 (by omega)
  have em : max rtt 0 = rtt := by omega
  have es : scoreS loss rtt = (65536 - clampS loss 0 65535) * 64 / (64 + rtt) := by unfold scoreS; rw [em]
  rw [es]
  clear em es
  have hz : ¬ rtt < 0 := by omega
  have cl := fun w => word_Clamp loss 0 65535 w (by omega)
  generalize clampS loss 0 65535 = c at *
  have CL := Lib.hid cl; clear cl
  go_enter Try.func53, Try.ntmps53
  go_wp2_with (go_at_call 54; refine (CL.out _).mono ?_; rintro e w' ⟨rfl, rfl⟩)
  all_goals (go_ret; exact ⟨rfl, (Fr.refl _ _).alloc _⟩)

theorem sz_stats : (Try.prog.info? 56).map (·.size) = some 5 := by kernel_rfl

def betterS (a b : PathS) : Bool := decide (scoreS b.loss b.rtt < scoreS a.loss a.rtt)

set_option maxRecDepth 100000 in
set_option maxHeartbeats 400000 in
theorem stats_Better (a b : PathS) (w : World) (ha : a.Ok) (hb : b.Ok) :
    Calls Try.prog 51 #[.agg a.stats.toArray, .agg b.stats.toArray] w fun e w' => e = .returned (.bool (betterS a b)) ∧ Fr (fun _ => False) w w' := by
  have c1 := fun w => stats_Score a.loss a.rtt a.var a.marks a.trips w ha.rtt0 ha.rtt1
  have c2 := fun w => stats_Score b.loss b.rtt b.var b.marks b.trips w hb.rtt0 hb.rtt1
  have C1 := Lib.hid c1; have C2 := Lib.hid c2; clear c1 c2 ha hb
  unfold betterS
  generalize ha : scoreS a.loss a.rtt = sa at C1
  generalize hb : scoreS b.loss b.rtt = sb at C2
  unfold PathS.stats
  go_enter Try.func51, Try.ntmps51
  go_wp2
  have h1 : Blk (((w.alloc (.cells a.stats.toArray 56)).alloc (.cells b.stats.toArray 56)).drew) w.heap.size 56 a.stats := ((Blk.new w _ _).alloc _).drew
  have h2 : Blk (((w.alloc (.cells a.stats.toArray 56)).alloc (.cells b.stats.toArray 56)).drew) (w.heap.size + 1) 56 b.stats := (Blk.new_at _ _ _ _ (by simp)).drew
  obtain ⟨C, hC⟩ : ∃ C : World → Prop, ∀ w', C w' ↔ (Blk w' w.heap.size 56 a.stats ∧ Blk w' (w.heap.size + 1) 56 b.stats) := ⟨_, fun _ => Iff.rfl⟩
  have HC := Lib.hid hC; clear hC
  refine wp_region_T (by kernel_rfl) C (fun k => [0, 2, 0, 2, 0, 0].getD k 0) (by kernel_rfl) ((HC.out _).2 ⟨h1, h2⟩) ?_
  refine wpT_load_aggQ rfl rfl 56 _ rfl w.heap.size 0 rfl a.stats (fun w' hw' => Reads.whole ((HC.out _).1 hw').1) Try.underlying56 rfl sz_stats ?_
  refine wpT_loud rfl rfl ?_
  unfold PathS.stats
  go_simp
  refine (C1.out _).mono ?_
  rintro e w1 ⟨rfl, hf1⟩
  refine ⟨(HC.out _).2 ⟨h1.keep hf1 (fun e => e), h2.keep hf1 (fun e => e)⟩, ?_⟩
  refine wpT_load_aggQ rfl rfl 56 _ rfl (w.heap.size + 1) 0 rfl b.stats (fun w' hw' => Reads.whole ((HC.out _).1 hw').2) Try.underlying56 rfl sz_stats ?_
  refine wpT_loud rfl rfl ?_
  unfold PathS.stats
  go_simp
  refine (C2.out _).mono ?_
  rintro e w2 ⟨rfl, hf2⟩
  refine ⟨(HC.out _).2 ⟨(h1.keep hf1 (fun e => e)).keep hf2 (fun e => e), (h2.keep hf1 (fun e => e)).keep hf2 (fun e => e)⟩, ?_⟩
  iterate 2 (refine wpT_step (fun K hK => ?_); go_simp; refine ⟨_, fun _ _ => rfl, hK _ _ ?_⟩; clear hK K)
  refine wpT_nil ?_
  go_wp2
  go_ret
  refine ⟨rfl, (((((Fr.refl _ w).alloc _).alloc _).drew).trans hf1).trans hf2⟩

end Go.Proofs.Ytppnaeedangndaa
