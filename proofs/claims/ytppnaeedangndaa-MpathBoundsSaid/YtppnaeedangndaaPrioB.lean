/- Walks over package prio at datagrams: an item moves up. -/
import Derived.Test.YtppnaeedangndaaPrioA
import Derived.Deep.LoopGhost
namespace Go.Proofs.Ytppnaeedangndaa
open Go.RowKit Go.Mm Go.Rg

/-- The queue's own block: room, turns, its heap. -/
def qCells (room turns : Int) (bh n cap : Nat) : List Value := [.int .i64 room, .int .i64 turns, .slice (some ⟨bh, 0, none⟩) n cap]

theorem sz_item : (Try.prog.info? 81).map (·.size) = some 13 := by kernel_rfl

set_option maxRecDepth 100000 in
set_option maxHeartbeats 400000 in
theorem prio_up (w : World) (bq bh Tq Th : Nat) (room turns : Int) (cap : Nat) (L : List It) (sp : List Value) (hq : Blk w bq Tq (qCells room turns bh L.length cap)) (hb : Blk w bh Th (flat L ++ sp)) (hne : bq ≠ bh)
   (i : Nat) (hi : i < L.length) (hm : L.length ≤ 1000000) :
   Calls Try.prog 28 #[.pointer (some ⟨bq, 0, none⟩), .int .i64 i] w fun e w' => e = .returned (.tuple #[]) ∧ Blk w' bh Th (flat (Hp.up ahead L i) ++ sp) ∧ Fr (· = bh) w w' := by
  go_enter Try.func28, Try.ntmps28
  go_wp2
  go_loopw [1] (fun v wr => ∃ (k : Nat) (L' : List It), v = .int .i64 k ∧ k < L'.length ∧ L'.length = L.length ∧ Hp.up ahead L' k = Hp.up ahead L i ∧ Blk wr bh Th (flat L' ++ sp) ∧ Fr (· = bh) w wr) (fun v _ => (intOf v).toNat)
  case atStart => exact ⟨i, L, rfl, hi, rfl, rfl, hb, Fr.refl _ _⟩
  case round =>
    obtain ⟨k, L', rfl, hk, hl, hu, hb', hf⟩ := hrel
    have hq' : Blk wr bq Tq (qCells room turns bh L.length cap) := hq.keep hf hne
    have q2 : wr.cell? ⟨bq, 2, none⟩ = some (.slice (some ⟨bh, 0, none⟩) L.length cap) := hq'.cell 2
    by_cases h0 : k = 0
    · subst h0
      go_wp2
      go_end0
      refine ⟨rfl, ?_, hf⟩
      rw [← hu]
      unfold Hp.up
      rw [if_pos rfl]
      exact hb'
    · obtain ⟨p, hpd⟩ : ∃ p : Nat, p = (k - 1) / 2 := ⟨_, rfl⟩
      have ep : ((k : Int) - 1) / 2 = (p : Int) := by omega
      have hk1 : (1 : Int) ≤ k := by omega
      have hpk : p < k := by omega
      have hp : p < L'.length := by omega
      have bk : (k : Int) < (L.length : Int) := by omega
      have bp : (p : Int) < (L.length : Int) := by omega
      have bk0 : (0 : Int) ≤ (k : Int) := by omega
      have bp0 : (0 : Int) ≤ (p : Int) := by omega
      have HU := Lib.hid hu; clear hu
      have HL := Lib.hid hl; clear hl
      have HP := Lib.hid hpd; clear hpd
      go_wp2
      refine wp_region_T (by kernel_rfl) (fun _ => True) (fun k => [0, 0, 0, 1, 0, 0, 1, 0, 0, 0, 1, 0, 0, 1, 2, 0].getD k 0) (by kernel_rfl) trivial ?_
      iterate 6 (refine wpT_step (fun K hK => ?_); go_simp; refine hK _ _ ?_; clear hK K)
      refine wpT_load_agg rfl rfl 81 _ rfl bh (k * 13) rfl (Hp.nth L' k).cells (reads_item hb' k hk).drew Try.underlying81 rfl sz_item ?_
      iterate 6 (refine wpT_step (fun K hK => ?_); go_simp; refine hK _ _ ?_; clear hK K)
      refine wpT_load_agg rfl rfl 81 _ rfl bh (p * 13) rfl (Hp.nth L' p).cells (reads_item hb' p hp).drew Try.underlying81 rfl sz_item ?_
      refine wpT_step (fun K hK => ?_)
      go_simp
      refine (prio_ahead (Hp.nth L' k) (Hp.nth L' p) wr.drew).mono ?_
      rintro e w1 ⟨rfl, hf1⟩
      refine hK _ _ ?_
      clear hK K
      have hb1 : Blk w1 bh Th (flat L' ++ sp) := hb'.drew.keep hf1 (fun e => e)
      have hq1 : Blk w1 bq Tq (qCells room turns bh L.length cap) := hq'.drew.keep hf1 (fun e => e)
      have hf2 : Fr (· = bh) w w1 := hf.drew.then hf1 (fun _ _ e => e.elim)
      have q3 : w1.cell? ⟨bq, 2, none⟩ = some (.slice (some ⟨bh, 0, none⟩) L.length cap) := hq1.cell 2
      clear q2 hq' hb' hf1 hf
      by_cases ha : ahead (Hp.nth L' k) (Hp.nth L' p) = true
      · refine wpT_step (fun K hK => ?_)
        go_simp
        refine hK _ _ ?_
        clear hK K
        refine wpT_nil ?_
        go_wp2
        refine wp_region_T (by kernel_rfl) (fun _ => True) (fun k => [0, 0, 0, 1, 0, 0, 0, 0, 1, 0, 0, 0, 0, 1, 0, 0, 1, 0, 0, 0, 1, 0, 0, 1, 0, 2, 0, 2].getD k 0) (by kernel_rfl) trivial ?_
        iterate 16 (refine wpT_step (fun K hK => ?_); go_simp; refine hK _ _ ?_; clear hK K)
        refine wpT_load_agg rfl rfl 81 _ rfl bh (p * 13) rfl (Hp.nth L' p).cells (reads_item hb1 p hp).drew Try.underlying81 rfl sz_item ?_
        iterate 6 (refine wpT_step (fun K hK => ?_); go_simp; refine hK _ _ ?_; clear hK K)
        refine wpT_load_agg rfl rfl 81 _ rfl bh (k * 13) rfl (Hp.nth L' k).cells (reads_item hb1 k hk).drew Try.underlying81 rfl sz_item ?_
        refine wpT_step (fun K hK => ?_); go_simp; refine hK _ _ ?_; clear hK K
        refine wpT_store_agg rfl rfl 81 _ _ rfl bh (k * 13) rfl (Hp.nth L' p).cells rfl Th _ hb1.drew (by rw [It.length_cells, List.length_append, length_flat]; omega) (It.one _) sz_item ?_
        intro w2 hb2 hf3
        refine ⟨trivial, ?_⟩
        rw [flat_set _ _ _ _ hk] at hb2
        refine wpT_step (fun K hK => ?_); go_simp; refine hK _ _ ?_; clear hK K
        refine wpT_store_agg rfl rfl 81 _ _ rfl bh (p * 13) rfl (Hp.nth L' k).cells rfl Th _ hb2 (by rw [It.length_cells, List.length_append, length_flat]; simp; omega) (It.one _) sz_item ?_
        intro w3 hb3 hf4
        refine ⟨trivial, ?_⟩
        rw [flat_set _ _ _ _ (by simpa using hp)] at hb3
        refine wpT_nil ?_
        have hf5 : Fr (· = bh) w w3 := (hf2.drew.trans hf3).trans hf4
        clear hf2 hf3 hf4 hb1 hb2 hq1 q3
        go_wp2
        go_roundw
        case rel =>
          refine ⟨p, Hp.swap L' k p, rfl, ?_, ?_, ?_, hb3, hf5⟩
          · rw [Hp.length_swap]; exact hp
          · rw [Hp.length_swap]; exact HL.out
          · rw [← HU.out]
            conv => rhs; unfold Hp.up
            rw [if_neg h0, ← HP.out, if_pos ha]
        case measure => simp [intOf]; omega
      · have ha' : ahead (Hp.nth L' k) (Hp.nth L' p) = false := by simpa using ha
        clear ha
        refine wpT_step (fun K hK => ?_)
        go_simp
        refine hK _ _ ?_
        clear hK K
        refine wpT_nil ?_
        go_wp2
        refine bodyPost_ret (results_none rfl _ _ _) rfl ?_
        refine ⟨rfl, ?_, hf2⟩
        rw [← HU.out]
        unfold Hp.up
        rw [if_neg h0, ← HP.out, ha', if_neg (by simp)]
        exact hb1
end Go.Proofs.Ytppnaeedangndaa
