/- Walks over package prio at datagrams: an item goes; where the last one stands. -/
import Derived.Test.YtppnaeedangndaaPrioC
import Derived.Deep.Cut
import Derived.Deep.DeepCutAuto
namespace Go.Proofs.Ytppnaeedangndaa
open Go.RowKit Go.Mm Go.Rg

theorem flat_cut (L : List It) (n : Nat) (hn : n + 1 = L.length) : flat L = flat (L.take n) ++ (Hp.nth L n).cells := by
  have h := flat_split L n (by omega)
  rw [h, List.drop_of_length_le (by omega)]
  simp [flat]

set_option maxRecDepth 100000 in
set_option maxHeartbeats 400000 in
theorem prio_take (w : World) (bq bh Tq Th : Nat) (room turns : Int) (cap : Nat) (L : List It) (sp : List Value) (hq : Blk w bq Tq (qCells room turns bh L.length cap)) (hb : Blk w bh Th (flat L ++ sp)) (hne : bq ≠ bh)
   (i : Nat) (hi : i < L.length) (hm : L.length ≤ 1000000) (hcap : L.length ≤ cap) :
   Calls Try.prog 29 #[.pointer (some ⟨bq, 0, none⟩), .int .i64 i] w fun e w' => e = .returned (.agg (Hp.nth L i).cells.toArray) ∧
     (∃ sp', Blk w' bh Th (flat (Hp.take ahead L i) ++ sp') ∧ (flat (Hp.take ahead L i) ++ sp').length = (flat L ++ sp).length) ∧ Blk w' bq Tq (qCells room turns bh (L.length - 1) cap) ∧ Fr (fun b => b = bh ∨ b = bq) w w' := by
  obtain ⟨n, hn⟩ : ∃ n : Nat, n + 1 = L.length := ⟨L.length - 1, by omega⟩
  have en : (L.length : Int) - 1 = (n : Int) := by omega
  have hnL : n < L.length := by omega
  have bi : (i : Int) < (L.length : Int) := by omega
  have bn : (n : Int) < (L.length : Int) := by omega
  have b0i : 0 ≤ (i : Int) := by omega
  have b0n : 0 ≤ (n : Int) := by omega
  have bl : (L.length : Int) ≤ 1000000 := by omega
  have bnc : (n : Int) ≤ (cap : Int) := by omega
  have lq : bq < w.heap.size := hq.lt
  have lh : bh < w.heap.size := hb.lt
  have HN := Lib.hid hn; clear hn
  have q2 : w.cell? ⟨bq, 2, none⟩ = some (.slice (some ⟨bh, 0, none⟩) L.length cap) := hq.cell 2
  go_enter Try.func29, Try.ntmps29
  go_upto_region 2 with (first | (refine wpList_load_agg rfl 81 (.tmp 12) rfl bh (i * 13) rfl (Hp.nth L i).cells (reads_item (hb.alloc _) i hi) Try.underlying81 rfl sz_item ?_) | (refine wpList_store_agg rfl 81 (.tmp 5) (.tmp 13) rfl _ 0 rfl (Hp.nth L i).cells rfl 81 _ (Blk.new_at _ _ _ _ (by simp)) (by simp [It.length_cells]) (It.one _) sz_item ?_; intro w1 hn1 hf1; rw [splice_whole _ _ (by simp [It.length_cells])] at hn1))
  have hq1 := ((hq.alloc _).alloc _).keep hf1 (by omega)
  have hb1 := ((hb.alloc _).alloc _).keep hf1 (by omega)
  have hr1 := ((Blk.new w 81 _).alloc _).keep hf1 (by omega)
  have hf0 : Fr (fun b => b = bh ∨ b = bq) w w1 := (((Fr.refl _ w).alloc _).alloc _).then hf1 (by intro b hb e; omega)
  have q3 : w1.cell? ⟨bq, 2, none⟩ = some (.slice (some ⟨bh, 0, none⟩) L.length cap) := hq1.cell 2
  have z1 : w.heap.size + 1 < w1.heap.size := by have := hf1.size; simp at this; omega
  clear q2 hf1
  go_wp2
  refine wp_region_T (by kernel_rfl) (fun _ => True) (fun k => [0, 0, 0, 1, 0, 0, 0, 0, 1, 0, 0, 1, 0, 2].getD k 0) (by kernel_rfl) trivial ?_
  iterate 11 (refine wpT_step (fun K hK => ?_); go_simp; refine hK _ _ ?_; clear hK K)
  refine wpT_load_agg rfl rfl 81 _ rfl bh (n * 13) rfl (Hp.nth L n).cells (reads_item hb1 n hnL).drew Try.underlying81 rfl sz_item ?_
  refine wpT_step (fun K hK => ?_); go_simp; refine hK _ _ ?_; clear hK K
  refine wpT_store_agg rfl rfl 81 _ _ rfl bh (i * 13) rfl (Hp.nth L n).cells rfl Th _ hb1.drew (by rw [It.length_cells, List.length_append, length_flat]; omega) (It.one _) sz_item ?_
  intro w2 hb2 hg1
  refine ⟨trivial, wpT_nil ?_⟩
  rw [flat_set _ _ _ _ hi] at hb2
  have hq2 := hq1.drew.keep hg1 hne
  have hr2 := hr1.drew.keep hg1 (by omega)
  have hx2 := hn1.drew.keep hg1 (by omega)
  have hf2 : Fr (fun b => b = bh ∨ b = bq) w w2 := hf0.drew.then hg1 (by intro b _ e; exact .inl e)
  have q4 : w2.cell? ⟨bq, 2, none⟩ = some (.slice (some ⟨bh, 0, none⟩) L.length cap) := hq2.cell 2
  have f4 : w2.frozen? ⟨bq, 2, none⟩ = false := hq2.free 2
  have z2 : w.heap.size + 1 < w2.heap.size := by have := hg1.size; simp at this; omega
  obtain ⟨L1, hL1⟩ : ∃ L1, L1 = (L.set i (Hp.nth L n)).take n := ⟨_, rfl⟩
  have hl1 : L1.length = n := by rw [hL1]; simp; omega
  have hfl : flat (L.set i (Hp.nth L n)) ++ sp = flat L1 ++ ((Hp.nth (L.set i (Hp.nth L n)) n).cells ++ sp) := by
    rw [flat_cut (L.set i (Hp.nth L n)) n (by simpa using HN.out), hL1, List.append_assoc]
  rw [hfl] at hb2
  have HL1 := Lib.hid hL1; clear hL1
  have Hl1 := Lib.hid hl1; clear hl1 hfl
  clear q3 z1 hb1 hq1 hr1 hn1 hg1 hf0
  by_cases hin : i < n
  · have bin : (i : Int) < (n : Int) := by omega
    go_wp2_with fail
    have hq3 : Blk (w2.setCell ⟨bq, 2, none⟩ (.slice (some ⟨bh, 0, none⟩) n cap)) bq Tq (qCells room turns bh L1.length cap) := by
      rw [Hl1.out]; exact hq2.setCell 2 _
    have hb3 := hb2.setCell_ne ⟨bq, 2, none⟩ (.slice (some ⟨bh, 0, none⟩) n cap) (Ne.symm hne)
    have hr3 := hr2.setCell_ne ⟨bq, 2, none⟩ (.slice (some ⟨bh, 0, none⟩) n cap) (by simp; omega)
    have hx3 := hx2.setCell_ne ⟨bq, 2, none⟩ (.slice (some ⟨bh, 0, none⟩) n cap) (by simp; omega)
    have hf3 := hf2.setCell ⟨bq, 2, none⟩ (.slice (some ⟨bh, 0, none⟩) n cap) (.inl (.inr rfl))
    refine (prio_down _ bq bh Tq Th room turns cap L1 _ hq3 hb3 hne i (by rw [Hl1.out]; omega) (by rw [Hl1.out]; omega)).mono ?_
    rintro e w4 ⟨rfl, hb4, hg2⟩
    have hq4 := hq3.keep hg2 hne
    have hr4 := hr3.keep hg2 (by omega)
    have hx4 := hx3.keep hg2 (by omega)
    have hf4 : Fr (fun b => b = bh ∨ b = bq) w w4 := hf3.then hg2 (by intro b _ e; exact .inl e)
    clear hq3 hb3 hr3 hx3 hf3 hg2 hq2 hb2 hr2 hx2 hf2 q4 f4 z2
    go_wp2_with fail
    rw [← Hp.length_down ahead L1 i] at hq4
    refine (prio_up _ bq bh Tq Th room turns cap (Hp.down ahead L1 i) _ hq4 hb4 hne i (by rw [Hp.length_down, Hl1.out]; omega) (by rw [Hp.length_down, Hl1.out]; omega)).mono ?_
    rintro e w5 ⟨rfl, hb5, hg3⟩
    have hq5 := hq4.keep hg3 hne
    have hr5 := hr4.keep hg3 (by omega)
    have hx5 := hx4.keep hg3 (by omega)
    have hf5 : Fr (fun b => b = bh ∨ b = bq) w w5 := hf4.then hg3 (by intro b _ e; exact .inl e)
    clear hq4 hb4 hr4 hx4 hf4 hg3
    go_wp2_with (first | (refine wpList_load_agg rfl 81 (.tmp 5) rfl _ 0 rfl (Hp.nth L i).cells (Reads.whole hx5) Try.underlying81 rfl sz_item ?_) | (refine wpList_store_agg rfl 81 (.tmp 4) (.tmp 51) rfl _ 0 rfl (Hp.nth L i).cells rfl _ _ hr5 (by simp [It.length_cells]) (It.one _) sz_item ?_; intro w6 hr6 hg4; rw [splice_whole _ _ (by simp [It.length_cells])] at hr6))
    refine bodyPost_ret (results_cell_agg rfl _ _ _ 0 _ rfl (Reads.whole hr6) Try.underlying81 rfl sz_item) rfl ?_
    refine ⟨rfl, ⟨(Hp.nth (L.set i (Hp.nth L n)) n).cells ++ sp, ?_, ?_⟩, ?_, hf5.then hg4 (by intro b hb e; omega)⟩
    · have h1 := HN.out
      have : Hp.take ahead L i = Hp.up ahead (Hp.down ahead L1 i) i := by
        unfold Hp.take
        simp only
        rw [show L.length - 1 = n by omega, if_pos hin, HL1.out]
      rw [this]
      exact hb5.keep hg4 (by have := hb.lt; omega)
    · have h1 := HN.out
      simp only [List.length_append, length_flat, Hp.length_take ahead L i hi, It.length_cells]
      omega
    · have h1 := HN.out
      have := hq5.keep hg4 (by have := hq.lt; omega)
      rw [Hp.length_down, Hl1.out] at this
      rw [show L.length - 1 = n by omega]
      exact this
  · have bin : (n : Int) ≤ (i : Int) := by omega
    have HI := Lib.hid hin; clear hin
    go_wp2_with (first | (refine wpList_load_agg rfl 81 (.tmp 5) rfl _ 0 rfl (Hp.nth L i).cells (Reads.whole (hx2.setCell_ne ⟨bq, 2, none⟩ (.slice (some ⟨bh, 0, none⟩) n cap) (by simp; omega))) Try.underlying81 rfl sz_item ?_) | (refine wpList_store_agg rfl 81 (.tmp 4) (.tmp 51) rfl _ 0 rfl (Hp.nth L i).cells rfl _ _ (hr2.setCell_ne ⟨bq, 2, none⟩ (.slice (some ⟨bh, 0, none⟩) n cap) (by simp; omega)) (by simp [It.length_cells]) (It.one _) sz_item ?_; intro w6 hr6 hg4; rw [splice_whole _ _ (by simp [It.length_cells])] at hr6))
    refine bodyPost_ret (results_cell_agg rfl _ _ _ 0 _ rfl (Reads.whole hr6) Try.underlying81 rfl sz_item) rfl ?_
    have hf3 := hf2.setCell ⟨bq, 2, none⟩ (.slice (some ⟨bh, 0, none⟩) n cap) (.inl (.inr rfl))
    refine ⟨rfl, ⟨(Hp.nth (L.set i (Hp.nth L n)) n).cells ++ sp, ?_, ?_⟩, ?_, hf3.then hg4 (by intro b hb e; omega)⟩
    · have h1 := HN.out
      have h2 := HI.out
      have : Hp.take ahead L i = L1 := by
        unfold Hp.take
        simp only
        rw [show L.length - 1 = n by omega, if_neg h2, HL1.out]
      rw [this]
      exact (hb2.setCell_ne ⟨bq, 2, none⟩ (.slice (some ⟨bh, 0, none⟩) n cap) (Ne.symm hne)).keep hg4 (by have := hb.lt; omega)
    · have h1 := HN.out
      simp only [List.length_append, length_flat, Hp.length_take ahead L i hi, It.length_cells]
      omega
    · have h1 := HN.out
      rw [show L.length - 1 = n by omega]
      exact (hq2.setCell 2 (.slice (some ⟨bh, 0, none⟩) n cap)).keep hg4 (by have := hq.lt; omega)
end Go.Proofs.Ytppnaeedangndaa
