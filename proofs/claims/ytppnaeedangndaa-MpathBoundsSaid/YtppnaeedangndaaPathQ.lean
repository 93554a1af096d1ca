/- Walks over package path: two ways in order. -/
import Derived.Test.YtppnaeedangndaaPathO
import Derived.Test.YtppnaeedangndaaPrioH
import Derived.Test.YtppnaeedangndaaLaws3
namespace Go.Proofs.Ytppnaeedangndaa
open Go.RowKit Go.Mm Go.Rg

theorem info_int : (Try.prog.info? 3).map (fun i => (i.zero, i.size, i.bytes)) = some (some (.int .i64 0), 1, 8) := by kernel_rfl

/-- Which of two ways comes first: 0 or 1. -/
def firstP (p0 p1 : PathS) : Nat := if aheadP p1 p0 = true then 1 else 0

theorem cells_of_owns {w : World} {g T n cap size : Nat} {xs : List Value} (h : w.ownsRow 0 T size (.slice (some ⟨g, 0, none⟩) n cap) n xs) : ∀ j u, xs[j]? = some u → w.cell? ((⟨g, 0, none⟩ : Addr).add j) = some u :=
  h.cells (g := g) rfl

set_option maxRecDepth 100000 in
set_option maxHeartbeats 800000 in
theorem path_Order (w : World) (g cap b T o0 o1 : Nat) (pre0 post0 pre1 post1 : List Value) (p0 p1 : PathS) (h0 : Seg w b T o0 pre0 p0.cells post0) (h1 : Seg w b T o1 pre1 p1.cells post1) (k0 : p0.Ok) (k1 : p1.Ok)
    (hl : w.ownsRow 0 84 1 (.slice (some ⟨g, 0, none⟩) 2 cap) 2 [.pointer (some ⟨b, o0, none⟩), .pointer (some ⟨b, o1, none⟩)]) :
    Calls Try.prog 43 #[.slice (some ⟨g, 0, none⟩) 2 cap] w fun e w' => ∃ g' cap', e = .returned (.slice (some ⟨g', 0, none⟩) 2 cap') ∧ w'.ownsRow 0 3 1 (.slice (some ⟨g', 0, none⟩) 2 cap') 2 [.int .i64 (firstP p0 p1), .int .i64 (1 - firstP p0 p1 : Nat)] ∧ Fr (fun _ => False) w w' := by
  have H0 := Lib.hid h0; have H1 := Lib.hid h1
  have l0 : w.cell? ⟨g, 0, none⟩ = some (.pointer (some ⟨b, o0, none⟩)) := cells_of_owns hl 0 _ rfl
  have l1 : w.cell? ⟨g, 1, none⟩ = some (.pointer (some ⟨b, o1, none⟩)) := cells_of_owns hl 1 _ rfl
  obtain ⟨i0, hi, hz0, hz1, hz2⟩ := info_parts info_int
  have I1 := Lib.hid hi; have I2 := Lib.hid hz0; have I3 := Lib.hid hz1; have I4 := Lib.hid hz2
  clear hi hz0 hz1 hz2
  go_enter Try.func43, Try.ntmps43
  go_wp2
  refine wp_loop_rounds 3 ?_
  rw [rounds_succ]
  go_wp2
  refine wp_loop_rounds 1 ?_
  rw [rounds_succ]
  go_wp2
  refine wp_region_T (by kernel_rfl) (fun _ => True) (fun k => [0, 0, 0, 0, 0, 0, 1, 0, 0, 0, 0, 0, 1, 0, 1, 2, 0].getD k 0) (by kernel_rfl) trivial ?_
  iterate 17 (refine wpT_step (fun K hK => ?_); go_simp; refine hK _ _ ?_; clear hK K)
  refine wpT_nil ?_
  go_wp2
  refine wp_region_T (by kernel_rfl) (fun _ => True) (fun k => [0, 0, 0, 0, 3, 0, 0, 0, 2, 2, 0].getD k 0) (by kernel_rfl) trivial ?_
  iterate 4 (refine wpT_step (fun K hK => ?_); go_simp; refine hK _ _ ?_; clear hK K)
  refine wpT_step (fun K hK => ?_)
  go_simp
  refine ⟨(Fr.refl _ _).alloc _, hK _ _ ?_⟩
  clear hK K
  iterate 3 (refine wpT_step (fun K hK => ?_); go_simp; refine hK _ _ ?_; clear hK K)
  refine wpT_loud rfl rfl ?_
  refine wp_append_none (.tmp 36) (.tmp 39) 24 rfl 3 (by rw [I1.out]; rfl) Try.underlying24 _ 1 1 rfl (by decide) none 0 rfl ?_
  refine ⟨trivial, ?_⟩
  refine wpT_loud rfl rfl ?_
  refine wp_append_where (.tmp 34) (.tmp 40) 24 rfl 3 i0 _ 1 8 Try.underlying24 I1.out I2.out I3.out I4.out rfl (by decide) (.slice none 0 0) 0 [] rfl ⟨rfl, .inl ⟨rfl, rfl⟩⟩ _ 1 1 [.int .i64 0] rfl rfl (cells_add (Blk.new w 3 [.int .i64 0]).drew.drew) (by intro u hu; simp at hu; subst hu; rfl) (by decide) (by decide) (by decide) ?_
  intro v1 w1 ho1 hg1 hn1
  refine ⟨trivial, ?_⟩
  have hf1 : Fr (fun _ => False) w w1 := (((Fr.refl _ w).alloc _).drew.drew).then (Fr.of_grown hg1) (fun _ _ e => by simp [Value.ownBlock] at e)
  clear hg1
  obtain ⟨g1, cap1, sp1, rfl, hb1, hc1, hc2, hc3⟩ := owns_blk ho1 (by decide)
  have hng : w.heap.size ≤ g1 := by
    rcases hn1 with h | h
    · simp [Value.ownBlock] at h
    · have := h g1 rfl
      simp at this
      omega
  clear hb1 hc3 sp1 hn1
  refine wpT_step (fun K hK => ?_); go_simp; refine hK _ _ ?_; clear hK K
  refine wpT_nil ?_
  have l0' : w1.cell? ⟨g, 0, none⟩ = some (.pointer (some ⟨b, o0, none⟩)) := cells_of_owns (hf1.owns hl (fun _ _ e => e)) 0 _ rfl
  have l1' : w1.cell? ⟨g, 1, none⟩ = some (.pointer (some ⟨b, o1, none⟩)) := cells_of_owns (hf1.owns hl (fun _ _ e => e)) 1 _ rfl
  have c1 : w1.cell? ⟨g1, 0, none⟩ = some (.int .i64 0) := cells_of_owns ho1 0 _ rfl
  have e0 : IntKind.i64.wrap 0 = 0 := by decide
  have hc1' : (1 : Int) ≤ cap1 := by omega
  clear l0 l1
  go_wp2
  rw [rounds_succ]
  go_wp2
  refine wp_loop_rounds 2 ?_
  rw [rounds_succ]
  go_wp2
  refine wp_region_T (by kernel_rfl) (fun _ => True) (fun k => [0, 0, 0, 0, 0, 0, 1, 0, 0, 0, 0, 0, 1, 0, 1, 2, 0].getD k 0) (by kernel_rfl) trivial ?_
  iterate 15 (refine wpT_step (fun K hK => ?_); go_simp; refine hK _ _ ?_; clear hK K)
  refine wpT_step (fun K hK => ?_)
  go_simp
  refine (path_ahead w1.drew b T o1 b T o0 pre1 post1 pre0 post0 p1 p0 (H1.out.keep hf1 (fun e => e)).drew (H0.out.keep hf1 (fun e => e)).drew k1 k0).mono ?_
  rintro e w2 ⟨rfl, hf2⟩
  refine hK _ _ ?_
  clear hK K
  have ho2 := hf2.owns (Fr.owns ho1 (Fr.refl (fun _ => False) w1).drew (fun _ _ e => e)) (fun _ _ e => e)
  have hf3 : Fr (fun _ => False) w w2 := hf1.drew.trans hf2
  have c2 : w2.cell? ⟨g1, 0, none⟩ = some (.int .i64 0) := cells_of_owns ho2 0 _ rfl
  clear c1 l0' l1' hf1 hf2 ho1
  obtain ⟨f, hfp⟩ : ∃ f, f = aheadP p1 p0 := ⟨_, rfl⟩
  rw [← hfp]
  have HFP := Lib.hid hfp; clear hfp
  cases f with
  | false =>
    refine wpT_step (fun K hK => ?_); go_simp; refine hK _ _ ?_; clear hK K
    refine wpT_nil ?_
    go_wp2
    refine wp_region_T (by kernel_rfl) (fun _ => True) (fun k => [0, 0, 0, 0, 3, 0, 0, 0, 2, 2, 0].getD k 0) (by kernel_rfl) trivial ?_
    iterate 4 (refine wpT_step (fun K hK => ?_); go_simp; refine hK _ _ ?_; clear hK K)
    refine wpT_step (fun K hK => ?_)
    go_simp
    refine ⟨(Fr.refl _ _).alloc _, hK _ _ ?_⟩
    clear hK K
    iterate 3 (refine wpT_step (fun K hK => ?_); go_simp; refine hK _ _ ?_; clear hK K)
    refine wpT_loud rfl rfl ?_
    refine wp_append_none (.tmp 36) (.tmp 39) 24 rfl 3 (by rw [I1.out]; rfl) Try.underlying24 _ 1 1 rfl (by decide) _ _ rfl ?_
    refine ⟨trivial, ?_⟩
    refine wpT_loud rfl rfl ?_
    refine wp_append_where (.tmp 34) (.tmp 40) 24 rfl 3 i0 _ 1 8 Try.underlying24 I1.out I2.out I3.out I4.out rfl (by decide) (.slice (some ⟨g1, 0, none⟩) 1 cap1) 1 [.int .i64 0] rfl
      (Fr.owns ho2 ((((Fr.refl (fun _ => False) w2).alloc _).drew)) (fun _ _ e => e)) _ 1 1 [.int .i64 1] rfl rfl (cells_add (Blk.new w2 3 [.int .i64 1]).drew) (by intro u hu; simp at hu; subst hu; rfl) (by decide) (by decide) (by decide) ?_
    intro v3 w3 ho3 hg3 _
    refine ⟨trivial, ?_⟩
    have hf4 : Fr (fun _ => False) w w3 := ((hf3.alloc _).drew).then (Fr.of_grown hg3) (fun bb hb e => by simp [Value.ownBlock] at e; omega)
    have hf5 := Lib.hid hf4
    clear hf4 hg3 ho2 hf3
    obtain ⟨g3, cap3, sp3, rfl, _, _, _, _⟩ := owns_blk ho3 (by decide)
    refine wpT_step (fun K hK => ?_); go_simp; refine hK _ _ ?_; clear hK K
    refine wpT_nil ?_
    go_wp2
    all_goals (
      rw [rounds_succ]
      go_wp2
      go_ret
      refine ⟨g3, cap3, rfl, ?_, hf5.out⟩
      have : firstP p0 p1 = 0 := by unfold firstP; rw [← HFP.out]; rfl
      rw [this]; exact ho3)
  | true =>
    refine wpT_step (fun K hK => ?_); go_simp; refine hK _ _ ?_; clear hK K
    refine wpT_nil ?_
    go_wp2
    rw [rounds_succ]
    go_wp2
    refine wp_region_T (by kernel_rfl) (fun _ => True) (fun k => [0, 0, 0, 0, 0, 0, 1, 0, 0, 0, 0, 0, 1, 0, 1, 2, 0].getD k 0) (by kernel_rfl) trivial ?_
    iterate 17 (refine wpT_step (fun K hK => ?_); go_simp; refine hK _ _ ?_; clear hK K)
    refine wpT_nil ?_
    go_wp2
    refine wp_region_T (by kernel_rfl) (fun _ => True) (fun k => [0, 0, 0, 0, 3, 0, 0, 0, 2, 2, 0].getD k 0) (by kernel_rfl) trivial ?_
    iterate 4 (refine wpT_step (fun K hK => ?_); go_simp; refine hK _ _ ?_; clear hK K)
    refine wpT_step (fun K hK => ?_)
    go_simp
    refine ⟨(Fr.refl _ _).alloc _, hK _ _ ?_⟩
    clear hK K
    iterate 3 (refine wpT_step (fun K hK => ?_); go_simp; refine hK _ _ ?_; clear hK K)
    refine wpT_loud rfl rfl ?_
    refine wp_append_where (.tmp 36) (.tmp 39) 24 rfl 3 i0 _ 1 8 Try.underlying24 I1.out I2.out I3.out I4.out rfl (by decide) (.slice (some ⟨w2.heap.size, 0, none⟩) 1 1) 1 [.int .i64 1] rfl
      (owns_of_blk (sp := []) (Blk.new w2 3 [.int .i64 1]).drew.drew rfl (by decide) (by decide) rfl) _ 1 _ [.int .i64 0] rfl rfl (cells_of_owns (Fr.owns ho2 (((Fr.refl (fun _ => False) w2).alloc _).drew.drew) (fun _ _ e => e))) (by intro u hu; simp at hu; subst hu; rfl) (by decide) (by decide) (by decide) ?_
    intro v3 w3 ho3 hg3 hn3
    refine ⟨trivial, ?_⟩
    have hf4 : Fr (fun _ => False) w w3 := ((hf3.alloc _).drew.drew).then (Fr.of_grown hg3) (fun bb hb e => by have := hf3.size; simp [Value.ownBlock] at e; omega)
    have ho4 : w3.ownsRow 0 3 1 (.slice (some ⟨g1, 0, none⟩) 0 cap1) 0 [] := owns_cut (Fr.owns (Fr.owns ho2 (((Fr.refl (fun _ => False) w2).alloc _).drew.drew) (fun _ _ e => e)) (Fr.of_grown hg3) (fun bb hb e => by
      obtain ⟨_, _, _, he, hb2, _⟩ := owns_blk ho2 (by decide)
      cases he
      have := hb2.lt
      simp [Value.ownBlock] at hb e
      omega)) (Nat.zero_le _)
    clear hf3 hg3 ho2
    obtain ⟨g3, cap3, sp3, rfl, _, _, _, _⟩ := owns_blk ho3 (by decide)
    refine wpT_loud rfl rfl ?_
    refine wp_append_where (.tmp 34) (.tmp 40) 24 rfl 3 i0 _ 1 8 Try.underlying24 I1.out I2.out I3.out I4.out rfl (by decide) (.slice (some ⟨g1, 0, none⟩) 0 cap1) 0 [] rfl
      ho4 _ 2 _ [.int .i64 1, .int .i64 0] rfl rfl (cells_of_owns ho3) (by intro u hu; simp at hu; rcases hu with h | h <;> subst h <;> rfl) (by decide) (by decide) (by decide) ?_
    intro v5 w5 ho5 hg5 _
    refine ⟨trivial, ?_⟩
    have hf5 := Lib.hid (hf4.then (S := fun _ => False) (Fr.of_grown hg5) (fun bb hb e => by simp [Value.ownBlock] at e; omega))
    clear hf4 hg5 ho4 ho3
    obtain ⟨g3, cap3, sp3, rfl, _, _, _, _⟩ := owns_blk ho5 (by decide)
    refine wpT_step (fun K hK => ?_); go_simp; refine hK _ _ ?_; clear hK K
    refine wpT_nil ?_
    go_wp2
    all_goals (
      rw [rounds_succ]
      go_wp2
      go_ret
      refine ⟨g3, cap3, rfl, ?_, hf5.out⟩
      have : firstP p0 p1 = 1 := by unfold firstP; rw [← HFP.out]; rfl
      rw [this]; exact ho5)

end Go.Proofs.Ytppnaeedangndaa
