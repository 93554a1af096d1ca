/- Walks over package prio at datagrams: the first one goes. -/
import Derived.Test.YtppnaeedangndaaPrioF
namespace Go.Proofs.Ytppnaeedangndaa
open Go.RowKit Go.Mm Go.Rg

theorem QStep.of {w w' : World} {bq bh : Nat} {r t r' t' : Int} {n n' cap cap' : Nat} (hq : Blk w bq 79 (qCells r t bh n cap)) (hq' : Blk w' bq 79 (qCells r' t' bh n' cap')) (hf : Fr (fun b => b = bh ∨ b = bq) w w') : QStep bq w w' :=
  ⟨hf.mono (fun b _ e => e.elim (fun e => e ▸ .inr ⟨_, _, _, _, hq⟩) (fun e => .inl e)), fun b _ hb => by
    rcases hb with hb | ⟨r2, t2, n2, c2, hb⟩
    · exact .inl hb
    · have := (hq'.same hb).2
      simp only [qCells, List.cons.injEq, Value.slice.injEq, Option.some.injEq, Addr.mk.injEq] at this
      obtain ⟨_, _, ⟨⟨rfl, _⟩, _⟩, _⟩ := this
      exact .inr ⟨_, _, _, _, hq⟩⟩

set_option maxRecDepth 100000 in
set_option maxHeartbeats 400000 in
theorem prio_Pop_some (w : World) (bq : Nat) (room turns : Int) (L : List It) (h : IsQ w bq room turns L) (h0 : 0 < L.length) (hm : L.length ≤ 1000000) :
    Calls Try.prog 21 #[.pointer (some ⟨bq, 0, none⟩)] w fun e w' => e = .returned (.tuple #[.agg (Hp.nth L 0).d.cells.toArray, .int .i64 (Hp.nth L 0).rank, .bool true]) ∧ IsQ w' bq room turns (Hp.take ahead L 0) ∧ QStep bq w w' := by
  obtain ⟨bh, cap, sp, hq, hb, h1, h2, h3, hne⟩ := h.opened h0
  have lq := hq.lt
  have lh := hb.lt
  have q2 : w.cell? ⟨bq, 2, none⟩ = some (.slice (some ⟨bh, 0, none⟩) L.length cap) := hq.cell 2
  have hz : ((L.length : Int) == 0) = false := by rw [beq_eq_false_iff_ne]; omega
  have H3 := Lib.hid h3; clear h3
  go_enter Try.func21, Try.ntmps21
  go_wp2_with fail
  have hq0 := hq.alloc (.cells zDG.toArray 34)
  have hb0 := hb.alloc (.cells zDG.toArray 34)
  have hr0 := Blk.new w 34 zDG
  refine (prio_take _ bq bh _ _ room turns cap L sp hq0 hb0 hne 0 h0 hm h1).mono ?_
  rintro e w1 ⟨rfl, ⟨sp', hb1, hs1⟩, hq1, hf1⟩
  have hr1 := hr0.keep hf1 (by omega)
  have z1 : w.heap.size < w1.heap.size := hr1.lt
  have hf1' : Fr (fun b => b = bh ∨ b = bq) w w1 := (((Fr.refl (fun _ => False) w).alloc (.cells zDG.toArray 34))).mono (fun _ _ e => e.elim) |>.trans hf1
  have HS := Lib.hid hs1; clear hs1
  clear hq0 hb0 hr0 hf1 q2
  go_upto_region 5 with (refine wpList_store_agg rfl 81 (.tmp 6) (.tmp 15) rfl _ 0 rfl (Hp.nth L 0).cells rfl 81 _ (Blk.new_at _ _ _ _ (by simp)) (by simp [It.length_cells]) (It.one _) sz_item ?_; intro w2 hx2 hg1; rw [splice_whole _ _ (by simp [It.length_cells])] at hx2)
  have hq2 := ((hq1.alloc _).keep hg1 (by have := hq1.lt; omega)).drew
  have hb2 := ((hb1.alloc _).keep hg1 (by have := hb1.lt; omega)).drew
  have hr2 := ((hr1.alloc _).keep hg1 (by omega)).drew
  have hx2' := hx2.drew
  have hf2 : Fr (fun b => b = bh ∨ b = bq) w w2.drew := ((hf1'.alloc _).then hg1 (by intro b hb e; omega)).drew
  obtain ⟨C, hC⟩ : ∃ C : World → Prop, ∀ w', C w' ↔ w'.cell? ⟨w1.heap.size, 0, none⟩ = some (.int .i64 (Hp.nth L 0).rank) := ⟨_, fun _ => Iff.rfl⟩
  have HC := Lib.hid hC; clear hC
  refine wp_region_T (by kernel_rfl) C (fun k => [0, 1, 0, 0, 2, 0, 0].getD k 0) (by kernel_rfl) ((HC.out _).2 (hx2'.cell 0)) ?_
  refine wpT_step (fun K hK => ?_); go_simp; refine ⟨_, fun _ _ => rfl, hK _ _ ?_⟩; clear hK K
  refine wpT_load_agg rfl rfl 34 _ rfl w1.heap.size 2 rfl (Hp.nth L 0).d.cells (Reads.of_blk hx2' _ _ (fun j hj => by
    have hj' : j < 11 := by simpa [DG.length_cells] using hj
    match j, hj' with
    | 0, _ => rfl
    | 1, _ => rfl
    | 2, _ => rfl
    | 3, _ => rfl
    | 4, _ => rfl
    | 5, _ => rfl
    | 6, _ => rfl
    | 7, _ => rfl
    | 8, _ => rfl
    | 9, _ => rfl
    | 10, _ => rfl)) Try.underlying34 rfl sz_dg ?_
  refine wpT_step (fun K hK => ?_); go_simp; refine ⟨_, fun _ _ => rfl, hK _ _ ?_⟩; clear hK K
  refine wpT_load1Q rfl rfl 3 _ rfl w1.heap.size 0 rfl _ (fun w' hw' => (HC.out _).1 hw') Try.underlying3 rfl ?_
  refine wpT_store_agg rfl rfl 34 _ _ rfl w.heap.size 0 rfl (Hp.nth L 0).d.cells rfl _ _ hr2 (by rw [DG.length_cells]; exact Nat.le_refl _) (DG.one _) sz_dg ?_
  intro w3 hr3 hg2
  rw [splice_whole _ _ (by rw [DG.length_cells]; rfl)] at hr3
  refine ⟨(HC.out _).2 ((hx2'.keep hg2 (by omega)).cell 0), ?_⟩
  iterate 2 (refine wpT_step (fun K hK => ?_); go_simp; refine ⟨_, fun _ _ => rfl, hK _ _ ?_⟩; clear hK K)
  refine wpT_nil ?_
  have hq3 := hq2.keep hg2 (by omega)
  have hb3 := hb2.keep hg2 (by omega)
  have hf3 := hf2.then hg2 (by intro b hb e; omega)
  clear hg1 hg2 hx2 hx2' hq2 hb2 hr2 hf2 hf1' hq1 hb1 hr1
  go_wp2
  refine bodyPost_ret (results_mem2 rfl _ _ _ 0 _ rfl (Reads.whole hr3) Try.underlying34 rfl sz_dg) rfl ?_
  have hl : (Hp.take ahead L 0).length = L.length - 1 := Hp.length_take ahead L 0 h0
  refine ⟨rfl, IsQ.mk (by rw [hl]; exact hq3) hb3 (by omega) h2 (by rw [HS.out, H3.out]), QStep.of hq hq3 hf3⟩

end Go.Proofs.Ytppnaeedangndaa
