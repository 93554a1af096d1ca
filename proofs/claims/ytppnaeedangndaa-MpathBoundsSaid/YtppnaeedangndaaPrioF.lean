/- Walks over package prio at datagrams: the first one, told and taken. -/
import Derived.Test.YtppnaeedangndaaPrioE
namespace Go.Proofs.Ytppnaeedangndaa
open Go.RowKit Go.Mm Go.Rg

theorem sz_dg : (Try.prog.info? 34).map (·.size) = some 11 := by kernel_rfl

theorem reads_item_d {w : World} {b T : Nat} {L : List It} {sp : List Value} (h : Blk w b T (flat L ++ sp)) (i : Nat) (hi : i < L.length) : Reads w b (i * 13 + 2) (Hp.nth L i).d.cells :=
  Reads.of_blk h _ _ (fun j hj => by
    have hj' : j < 11 := by simpa [DG.length_cells] using hj
    rw [show i * 13 + 2 + j = i * 13 + (2 + j) by omega, flat_get L sp i (2 + j) hi (by omega)]
    match j, hj' with
    | 0, _ => rfl
    | 1, _ => rfl
    | 2, _ => rfl
    | 3, _ => rfl
    | 4, _ => rfl
    | 5, _ => rfl
    | 6, _ => rfl
    | 7, _ => rfl
    | 8, _ => rfl
    | 9, _ => rfl
    | 10, _ => rfl)

/-- A datagram of zeros. -/
def zDG : List Value := [.int .i64 0, .int .u32 0, .int .u32 0, .int .i64 0, .int .u32 0, .int .u32 0, .int .u32 0, .int .i64 0, .int .i64 0, .int .i64 0, .slice none 0 0]

set_option maxRecDepth 100000 in
set_option maxHeartbeats 400000 in
theorem prio_Peek_some (w : World) (bq : Nat) (room turns : Int) (L : List It) (h : IsQ w bq room turns L) (h0 : 0 < L.length) :
    Calls Try.prog 17 #[.pointer (some ⟨bq, 0, none⟩)] w fun e w' => e = .returned (.tuple #[.agg (Hp.nth L 0).d.cells.toArray, .int .i64 (Hp.nth L 0).rank, .bool true]) ∧ Fr (fun _ => False) w w' := by
  obtain ⟨bh, cap, sp, hq, hb, h1, h2, h3, hne⟩ := h.opened h0
  have lq := hq.lt
  have lh := hb.lt
  have q2 : w.cell? ⟨bq, 2, none⟩ = some (.slice (some ⟨bh, 0, none⟩) L.length cap) := hq.cell 2
  have hz : ((L.length : Int) == 0) = false := by rw [beq_eq_false_iff_ne]; omega
  clear h2 h3
  go_enter Try.func17, Try.ntmps17
  go_wp2
  have hq0 := (hq.alloc (.cells zDG.toArray 34)).drew
  have hb0 := (hb.alloc (.cells zDG.toArray 34)).drew
  have hr0 := (Blk.new w 34 zDG).drew
  have hr := reads_item hb0 0 h0
  obtain ⟨C, hC⟩ : ∃ C : World → Prop, ∀ w', C w' ↔ (w'.cell? ⟨bq, 2, none⟩ = some (.slice (some ⟨bh, 0, none⟩) L.length cap) ∧ w'.cell? ⟨bh, 0, none⟩ = some (.int .i64 (Hp.nth L 0).rank)) := ⟨_, fun _ => Iff.rfl⟩
  have HC := Lib.hid hC; clear hC
  refine wp_region_T (by kernel_rfl) C (fun k => [0, 0, 0, 1, 0, 0, 1, 0, 0, 0, 0, 0, 0, 0, 2, 0, 0].getD k 0) (by kernel_rfl) ((HC.out _).2 ⟨hq0.cell 2, hr 0 (by simp [It.length_cells])⟩) ?_
  iterate 3 (refine wpT_step (fun K hK => ?_); go_simp; refine ⟨_, fun _ _ => rfl, hK _ _ ?_⟩; clear hK K)
  refine wpT_load1 rfl rfl 77 _ rfl bq 2 rfl _ (hq0.cell 2) Try.underlying77 rfl ?_
  iterate 2 (refine wpT_step (fun K hK => ?_); go_simp; refine ⟨_, fun _ _ => rfl, hK _ _ ?_⟩; clear hK K)
  refine wpT_load_agg rfl rfl 34 _ rfl bh 2 rfl (Hp.nth L 0).d.cells (reads_item_d hb0 0 h0) Try.underlying34 rfl sz_dg ?_
  iterate 3 (refine wpT_step (fun K hK => ?_); go_simp; refine ⟨_, fun _ _ => rfl, hK _ _ ?_⟩; clear hK K)
  refine wpT_load1Q rfl rfl 77 _ rfl bq 2 rfl _ (fun w' hw' => ((HC.out _).1 hw').1) Try.underlying77 rfl ?_
  iterate 2 (refine wpT_step (fun K hK => ?_); go_simp; refine ⟨_, fun _ _ => rfl, hK _ _ ?_⟩; clear hK K)
  refine wpT_load1Q rfl rfl 3 _ rfl bh 0 rfl _ (fun w' hw' => ((HC.out _).1 hw').2) Try.underlying3 rfl ?_
  refine wpT_store_agg rfl rfl 34 _ _ rfl w.heap.size 0 rfl (Hp.nth L 0).d.cells rfl _ _ hr0 (by rw [DG.length_cells]; exact Nat.le_refl _) (DG.one _) sz_dg ?_
  intro w2 hr2 hg1
  rw [splice_whole _ _ (by rw [DG.length_cells]; rfl)] at hr2
  refine ⟨(HC.out _).2 ⟨(hq0.keep hg1 (by omega)).cell 2, (reads_item (hb0.keep hg1 (by omega)) 0 h0) 0 (by simp [It.length_cells])⟩, ?_⟩
  iterate 2 (refine wpT_step (fun K hK => ?_); go_simp; refine ⟨_, fun _ _ => rfl, hK _ _ ?_⟩; clear hK K)
  refine wpT_nil ?_
  go_wp2
  refine bodyPost_ret (results_mem2 rfl _ _ _ 0 _ rfl (Reads.whole hr2) Try.underlying34 rfl sz_dg) rfl ?_
  exact ⟨rfl, (((Fr.refl _ w).alloc _).drew).then hg1 (by intro b hb e; omega)⟩

set_option maxRecDepth 100000 in
set_option maxHeartbeats 400000 in
theorem prio_Peek_none (w : World) (bq : Nat) (room turns : Int) (h : IsQ w bq room turns []) :
    Calls Try.prog 17 #[.pointer (some ⟨bq, 0, none⟩)] w fun e w' => e = .returned (.tuple #[.agg zDG.toArray, .int .i64 0, .bool false]) ∧ Fr (fun _ => False) w w' := by
  obtain ⟨A, c, hq⟩ := h.head
  have lq := hq.lt
  have q2 : w.cell? ⟨bq, 2, none⟩ = some (.slice A 0 c) := hq.cell 2
  go_enter Try.func17, Try.ntmps17
  go_wp2
  refine bodyPost_ret (results_mem2 rfl _ _ _ 0 zDG rfl (Reads.whole ((Blk.new _ _ _).alloc _)) Try.underlying34 rfl sz_dg) rfl ?_
  exact ⟨rfl, ((Fr.refl _ w).alloc _).alloc _⟩

end Go.Proofs.Ytppnaeedangndaa
