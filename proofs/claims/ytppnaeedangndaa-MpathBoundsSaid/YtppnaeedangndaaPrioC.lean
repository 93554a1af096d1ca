/- Walks over package prio at datagrams: an item moves down. -/
import Derived.Test.YtppnaeedangndaaPrioB
namespace Go.Proofs.Ytppnaeedangndaa
open Go.RowKit Go.Mm Go.Rg

set_option maxRecDepth 100000 in
set_option maxHeartbeats 1600000 in
theorem prio_down (w : World) (bq bh Tq Th : Nat) (room turns : Int) (cap : Nat) (L : List It) (sp : List Value) (hq : Blk w bq Tq (qCells room turns bh L.length cap)) (hb : Blk w bh Th (flat L ++ sp)) (hne : bq ≠ bh)
   (i : Nat) (hi : i ≤ L.length) (hm : L.length ≤ 1000000) :
   Calls Try.prog 42 #[.pointer (some ⟨bq, 0, none⟩), .int .i64 i] w fun e w' => e = .returned (.tuple #[]) ∧ Blk w' bh Th (flat (Hp.down ahead L i) ++ sp) ∧ Fr (· = bh) w w' := by
  go_enter Try.func42, Try.ntmps42
  go_wp2
  go_loopw [1] (fun v wr => ∃ (k : Nat) (L' : List It), v = .int .i64 k ∧ k ≤ L'.length ∧ L'.length = L.length ∧ Hp.down ahead L' k = Hp.down ahead L i ∧ Blk wr bh Th (flat L' ++ sp) ∧ Fr (· = bh) w wr) (fun v _ => L.length - (intOf v).toNat)
  case atStart => exact ⟨i, L, rfl, hi, rfl, rfl, hb, Fr.refl _ _⟩
  case round =>
    obtain ⟨k, L', rfl, hk, hl, hu, hb', hf⟩ := hrel
    have hq' : Blk wr bq Tq (qCells room turns bh L.length cap) := hq.keep hf hne
    have q2 : wr.cell? ⟨bq, 2, none⟩ = some (.slice (some ⟨bh, 0, none⟩) L.length cap) := hq'.cell 2
    obtain ⟨m, hmd⟩ : ∃ m : Nat, m = 2 * k + 1 := ⟨_, rfl⟩
    have em : 2 * (k : Int) + 1 = (m : Int) := by omega
    have b2k : 2 * (k : Int) ≤ 3000000 := by omega
    have b0k : 0 ≤ (k : Int) := by omega
    have b0m : 0 ≤ (m : Int) := by omega
    have bm : (m : Int) ≤ 3000001 := by omega
    have HU := Lib.hid hu; clear hu
    have HL := Lib.hid hl; clear hl
    have HM := Lib.hid hmd; clear hmd
    by_cases hmn : m < L.length
    case neg =>
      have hge : (L.length : Int) ≤ (m : Int) := by omega
      go_wp2
      refine bodyPost_ret (results_none rfl _ _ _) rfl ?_
      refine ⟨rfl, ?_, hf⟩
      rw [← HU.out]
      unfold Hp.down
      rw [if_neg (by have := HL.out; have := HM.out; omega)]
      exact hb'
    case pos =>
      have bmn : (m : Int) < (L.length : Int) := by omega
      have hmL : m < L'.length := by have := HL.out; omega
      have hkL : k < L'.length := by have := HL.out; have := HM.out; omega
      have bkn : (k : Int) < (L.length : Int) := by have := HM.out; omega
      go_wp2
      obtain ⟨c, hcd⟩ : ∃ c : Nat, c = m + 1 := ⟨_, rfl⟩
      have ecw : IntKind.i64.wrap (c : Int) = (c : Int) := IntWalk.i64_in _ (by omega)
      have ec : (m : Int) + 1 = (c : Int) := by omega
      have b0c : 0 ≤ (c : Int) := by omega
      have three : (c < L.length ∧ ahead (Hp.nth L' c) (Hp.nth L' m) = true) ∨ (c < L.length ∧ ahead (Hp.nth L' c) (Hp.nth L' m) = false) ∨ ¬ c < L.length := by
        by_cases h : c < L.length
        · cases ahead (Hp.nth L' c) (Hp.nth L' m) <;> simp [h]
        · simp [h]
      have HC := Lib.hid hcd; clear hcd
      rcases three with ⟨hm1, ha⟩ | ⟨hm1, ha⟩ | hm1
      case' inl =>
        have bc : (c : Int) < (L.length : Int) := by omega
        have hcL : c < L'.length := by have := HL.out; omega
        refine wp_region_T (by kernel_rfl) (fun _ => True) (fun k => [0, 0, 0, 0, 0, 1, 0, 0, 0, 0, 0, 0, 1, 0, 0, 0, 1, 0, 0, 0, 1, 0, 0, 1, 2, 0].getD k 0) (by kernel_rfl) trivial ?_
        iterate 16 (refine wpT_step (fun K hK => ?_); go_simp; refine hK _ _ ?_; clear hK K)
        refine wpT_load_agg rfl rfl 81 _ rfl bh (c * 13) rfl (Hp.nth L' c).cells (reads_item hb' c hcL).drew Try.underlying81 rfl sz_item ?_
        iterate 6 (refine wpT_step (fun K hK => ?_); go_simp; refine hK _ _ ?_; clear hK K)
        refine wpT_load_agg rfl rfl 81 _ rfl bh (m * 13) rfl (Hp.nth L' m).cells (reads_item hb' m hmL).drew Try.underlying81 rfl sz_item ?_
        refine wpT_step (fun K hK => ?_)
        go_simp
        refine (prio_ahead (Hp.nth L' c) (Hp.nth L' m) wr.drew).mono ?_
        rintro e w1 ⟨rfl, hf1⟩
        rw [ha]
        refine hK _ _ ?_
        clear hK K
        have hb1 : Blk w1 bh Th (flat L' ++ sp) := hb'.drew.keep hf1 (fun e => e)
        have hq1 : Blk w1 bq Tq (qCells room turns bh L.length cap) := hq'.drew.keep hf1 (fun e => e)
        have hf2 : Fr (· = bh) w w1 := hf.drew.then hf1 (fun _ _ e => e.elim)
        have q3 : w1.cell? ⟨bq, 2, none⟩ = some (.slice (some ⟨bh, 0, none⟩) L.length cap) := hq1.cell 2
        clear q2 hq' hb' hf1 hf
        refine wpT_step (fun K hK => ?_)
        go_simp
        refine hK _ _ ?_
        clear hK K
        refine wpT_nil ?_
        have hch : c = Hp.child ahead L' k := by
          unfold Hp.child
          have h1 := HM.out; have h2 := HC.out
          rw [show 2 * k + 2 = c by omega, show 2 * k + 1 = m by omega, if_pos ⟨hcL, ha⟩]
        have HN := Lib.hid hch; clear hch ha
        go_wp2
        have hjL := hcL; have bj := bc; have b0j := b0c
        clear hcL bc b0c HC ec ecw hm1
        generalize c = j at *
      case' inr.inl =>
        have bc : (c : Int) < (L.length : Int) := by omega
        have hcL : c < L'.length := by have := HL.out; omega
        refine wp_region_T (by kernel_rfl) (fun _ => True) (fun k => [0, 0, 0, 0, 0, 1, 0, 0, 0, 0, 0, 0, 1, 0, 0, 0, 1, 0, 0, 0, 1, 0, 0, 1, 2, 0].getD k 0) (by kernel_rfl) trivial ?_
        iterate 16 (refine wpT_step (fun K hK => ?_); go_simp; refine hK _ _ ?_; clear hK K)
        refine wpT_load_agg rfl rfl 81 _ rfl bh (c * 13) rfl (Hp.nth L' c).cells (reads_item hb' c hcL).drew Try.underlying81 rfl sz_item ?_
        iterate 6 (refine wpT_step (fun K hK => ?_); go_simp; refine hK _ _ ?_; clear hK K)
        refine wpT_load_agg rfl rfl 81 _ rfl bh (m * 13) rfl (Hp.nth L' m).cells (reads_item hb' m hmL).drew Try.underlying81 rfl sz_item ?_
        refine wpT_step (fun K hK => ?_)
        go_simp
        refine (prio_ahead (Hp.nth L' c) (Hp.nth L' m) wr.drew).mono ?_
        rintro e w1 ⟨rfl, hf1⟩
        rw [ha]
        refine hK _ _ ?_
        clear hK K
        have hb1 : Blk w1 bh Th (flat L' ++ sp) := hb'.drew.keep hf1 (fun e => e)
        have hq1 : Blk w1 bq Tq (qCells room turns bh L.length cap) := hq'.drew.keep hf1 (fun e => e)
        have hf2 : Fr (· = bh) w w1 := hf.drew.then hf1 (fun _ _ e => e.elim)
        have q3 : w1.cell? ⟨bq, 2, none⟩ = some (.slice (some ⟨bh, 0, none⟩) L.length cap) := hq1.cell 2
        clear q2 hq' hb' hf1 hf
        refine wpT_step (fun K hK => ?_)
        go_simp
        refine hK _ _ ?_
        clear hK K
        refine wpT_nil ?_
        have hch : m = Hp.child ahead L' k := by
          unfold Hp.child
          have h1 := HM.out; have h2 := HC.out
          rw [show 2 * k + 2 = c by omega, show 2 * k + 1 = m by omega, if_neg (by rw [ha]; simp)]
        have HN := Lib.hid hch; clear hch ha
        go_wp2
        have hjL := hmL; have bj := bmn; have b0j := b0m
        clear hcL bc b0c HC ec ecw hm1 hmL b0m bm bmn hmn em HM
        generalize m = j at *
      case' inr.inr =>
        have bc : (L.length : Int) ≤ (c : Int) := by omega
        have Hm1 := Lib.hid hm1; clear hm1
        have dc : decide ((c : Int) < (L.length : Int)) = false := by simp; omega
        have dc' : decide (c < L.length) = false := by simp; omega
        refine wp_region_T (by kernel_rfl) (fun _ => True) (fun k => [0, 0, 0, 0, 0, 1, 0, 0, 0, 0, 0, 0, 1, 0, 0, 0, 1, 0, 0, 0, 1, 0, 0, 1, 2, 0].getD k 0) (by kernel_rfl) trivial ?_
        iterate 26 (refine wpT_step (fun K hK => ?_); go_simp; refine hK _ _ ?_; clear hK K)
        refine wpT_nil ?_
        have hch : m = Hp.child ahead L' k := by
          unfold Hp.child
          have h1 := HM.out; have h2 := HC.out; have h3 := HL.out
          rw [show 2 * k + 2 = c by omega, show 2 * k + 1 = m by omega, if_neg (by have := Hm1.out; omega)]
        have HN := Lib.hid hch; clear hch
        have hb1 : Blk wr.drew bh Th (flat L' ++ sp) := hb'.drew
        have hq1 : Blk wr.drew bq Tq (qCells room turns bh L.length cap) := hq'.drew
        have hf2 : Fr (· = bh) w wr.drew := hf.drew
        have q3 : wr.drew.cell? ⟨bq, 2, none⟩ = some (.slice (some ⟨bh, 0, none⟩) L.length cap) := hq1.cell 2
        clear q2 hq' hb' hf
        generalize wr.drew = w1 at hb1 hq1 hf2 q3 ⊢
        go_wp2
        have hjL := hmL; have bj := bmn; have b0j := b0m
        clear bc b0c HC ec ecw Hm1 hmL b0m bm bmn hmn em HM dc dc'
        generalize m = j at *
      all_goals
        refine wp_region_T (by kernel_rfl) (fun _ => True) (fun k => [0, 0, 0, 1, 0, 0, 1, 0, 0, 0, 1, 0, 0, 1, 2, 0].getD k 0) (by kernel_rfl) trivial ?_
        iterate 6 (refine wpT_step (fun K hK => ?_); go_simp; refine hK _ _ ?_; clear hK K)
        refine wpT_load_agg rfl rfl 81 _ rfl bh (j * 13) rfl (Hp.nth L' j).cells (reads_item hb1 j hjL).drew Try.underlying81 rfl sz_item ?_
        iterate 6 (refine wpT_step (fun K hK => ?_); go_simp; refine hK _ _ ?_; clear hK K)
        refine wpT_load_agg rfl rfl 81 _ rfl bh (k * 13) rfl (Hp.nth L' k).cells (reads_item hb1 k hkL).drew Try.underlying81 rfl sz_item ?_
        refine wpT_step (fun K hK => ?_)
        go_simp
        refine (prio_ahead (Hp.nth L' j) (Hp.nth L' k) w1.drew).mono ?_
        rintro e w2 ⟨rfl, hg1⟩
        refine hK _ _ ?_
        clear hK K
        have hb2 : Blk w2 bh Th (flat L' ++ sp) := hb1.drew.keep hg1 (fun e => e)
        have hq2 : Blk w2 bq Tq (qCells room turns bh L.length cap) := hq1.drew.keep hg1 (fun e => e)
        have hf3 : Fr (· = bh) w w2 := hf2.drew.then hg1 (fun _ _ e => e.elim)
        have q4 : w2.cell? ⟨bq, 2, none⟩ = some (.slice (some ⟨bh, 0, none⟩) L.length cap) := hq2.cell 2
        clear q3 hq1 hb1 hg1 hf2
        by_cases ha : ahead (Hp.nth L' j) (Hp.nth L' k) = true
        · refine wpT_step (fun K hK => ?_)
          go_simp
          refine hK _ _ ?_
          clear hK K
          refine wpT_nil ?_
          go_wp2
          refine wp_region_T (by kernel_rfl) (fun _ => True) (fun k => [0, 0, 0, 1, 0, 0, 0, 0, 1, 0, 0, 0, 0, 1, 0, 0, 1, 0, 0, 0, 1, 0, 0, 1, 0, 2, 0, 2].getD k 0) (by kernel_rfl) trivial ?_
          iterate 16 (refine wpT_step (fun K hK => ?_); go_simp; refine hK _ _ ?_; clear hK K)
          refine wpT_load_agg rfl rfl 81 _ rfl bh (j * 13) rfl (Hp.nth L' j).cells (reads_item hb2 j hjL).drew Try.underlying81 rfl sz_item ?_
          iterate 6 (refine wpT_step (fun K hK => ?_); go_simp; refine hK _ _ ?_; clear hK K)
          refine wpT_load_agg rfl rfl 81 _ rfl bh (k * 13) rfl (Hp.nth L' k).cells (reads_item hb2 k hkL).drew Try.underlying81 rfl sz_item ?_
          refine wpT_step (fun K hK => ?_); go_simp; refine hK _ _ ?_; clear hK K
          refine wpT_store_agg rfl rfl 81 _ _ rfl bh (k * 13) rfl (Hp.nth L' j).cells rfl Th _ hb2.drew (by rw [It.length_cells, List.length_append, length_flat]; omega) (It.one _) sz_item ?_
          intro w3 hb3 hg2
          refine ⟨trivial, ?_⟩
          rw [flat_set _ _ _ _ hkL] at hb3
          refine wpT_step (fun K hK => ?_); go_simp; refine hK _ _ ?_; clear hK K
          refine wpT_store_agg rfl rfl 81 _ _ rfl bh (j * 13) rfl (Hp.nth L' k).cells rfl Th _ hb3 (by rw [It.length_cells, List.length_append, length_flat]; simp; omega) (It.one _) sz_item ?_
          intro w4 hb4 hg3
          refine ⟨trivial, ?_⟩
          rw [flat_set _ _ _ _ (by simpa using hjL)] at hb4
          refine wpT_nil ?_
          have hf5 : Fr (· = bh) w w4 := (hf3.drew.trans hg2).trans hg3
          clear hf3 hg2 hg3 hb2 hb3 hq2 q4
          go_wp2
          go_roundw
          case rel =>
            have hn := HN.out
            have h1 := Hp.child_ge ahead L' k
            refine ⟨j, Hp.swap L' k j, rfl, ?_, ?_, ?_, hb4, hf5⟩
            · rw [Hp.length_swap]; omega
            · rw [Hp.length_swap]; exact HL.out
            · rw [← HU.out]
              conv => rhs; unfold Hp.down
              rw [if_pos (by omega), ← hn, if_pos ha]
          case measure =>
            have hn := HN.out
            have h1 := Hp.child_ge ahead L' k
            have := HL.out
            simp [intOf]
            omega
        · have ha' : ahead (Hp.nth L' j) (Hp.nth L' k) = false := by simpa using ha
          clear ha
          refine wpT_step (fun K hK => ?_)
          go_simp
          refine hK _ _ ?_
          clear hK K
          refine wpT_nil ?_
          have hn := HN.out
          have h1 := Hp.child_ge ahead L' k
          clear HN
          have HN := Lib.hid hn; clear hn
          go_wp2
          refine bodyPost_ret (results_none rfl _ _ _) rfl ?_
          refine ⟨rfl, ?_, hf3⟩
          rw [← HU.out]
          unfold Hp.down
          by_cases hk2 : 2 * k + 1 < L'.length
          · rw [if_pos hk2, ← HN.out, ha', if_neg (by simp)]
            exact hb2
          · rw [if_neg hk2]
            exact hb2
end Go.Proofs.Ytppnaeedangndaa
