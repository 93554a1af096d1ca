/- A sender's block; the order of its ways. -/
import Derived.Test.YtppnaeedangndaaPathQ
namespace Go.Mm

/-- A sender: its ways, where its bucket and its queue lie, and its numbers. -/
structure SendS where
  (p0 p1 : PathS)
  (bk qu : Nat)
  (session now dropped held : Int)

def SendS.rest (s : SendS) : List Value := [.pointer (some ⟨s.bk, 0, none⟩), .pointer (some ⟨s.qu, 0, none⟩), .int .u32 s.session, .int .u32 s.now, .int .i64 s.dropped, .int .i64 s.held]
def SendS.cells (s : SendS) : List Value := s.p0.cells ++ s.p1.cells ++ s.rest

end Go.Mm
namespace Go.Proofs.Ytppnaeedangndaa
open Go.RowKit Go.Mm Go.Rg

theorem SendS.seg0 {w : World} {b T : Nat} {s : SendS} (h : Blk w b T s.cells) : Seg w b T 0 [] s.p0.cells (s.p1.cells ++ s.rest) :=
  ⟨by simpa [SendS.cells] using h, rfl⟩
theorem SendS.seg1 {w : World} {b T : Nat} {s : SendS} (h : Blk w b T s.cells) : Seg w b T 15 s.p0.cells s.p1.cells s.rest := ⟨h, rfl⟩
theorem SendS.of_seg0 {w : World} {b T : Nat} {s : SendS} {p : PathS} (h : Seg w b T 0 [] p.cells (s.p1.cells ++ s.rest)) : Blk w b T ({ s with p0 := p } : SendS).cells := by
  have := h.blk
  simpa [SendS.cells, SendS.rest] using this
theorem SendS.of_seg1 {w : World} {b T : Nat} {s : SendS} {p : PathS} (h : Seg w b T 15 s.p0.cells p.cells s.rest) : Blk w b T ({ s with p1 := p } : SendS).cells := h.blk

theorem info_pp : (Try.prog.info? 84).map (fun i => (i.zero, i.size, i.bytes)) = some (some (.pointer none), 1, 8) := by kernel_rfl

def wayAt (s : SendS) (i : Nat) : PathS := if i = 0 then s.p0 else s.p1

set_option maxRecDepth 100000 in
set_option maxHeartbeats 800000 in
theorem mpath_order (w : World) (bs : Nat) (s : SendS) (h : Blk w bs 64 s.cells) (k0 : s.p0.Ok) (k1 : s.p1.Ok) :
    Calls Try.prog 31 #[.pointer (some ⟨bs, 0, none⟩)] w fun e w' => ∃ g' cap', e = .returned (.slice (some ⟨g', 0, none⟩) 2 cap') ∧ w'.ownsRow 0 3 1 (.slice (some ⟨g', 0, none⟩) 2 cap') 2 [.int .i64 (firstP s.p0 s.p1), .int .i64 (1 - firstP s.p0 s.p1 : Nat)] ∧ Fr (fun _ => False) w w' := by
  have H := Lib.hid h
  obtain ⟨i0, hi, hz0, hz1, hz2⟩ := info_parts info_pp
  have I1 := Lib.hid hi; have I2 := Lib.hid hz0; have I3 := Lib.hid hz1; have I4 := Lib.hid hz2
  clear hi hz0 hz1 hz2 h
  go_enter Try.func31, Try.ntmps31
  go_wp2
  refine wp_loop_rounds 3 ?_
  rw [rounds_succ]
  go_upto_region 6 with (
    refine wpList_append_where rfl (.tmp 8) (.tmp 14) 91 rfl 84 i0 _ 1 8 Try.underlying91 I1.out I2.out I3.out I4.out rfl (by decide) (.slice none 0 0) 0 [] rfl ⟨rfl, .inl ⟨rfl, rfl⟩⟩ _ 1 1 [.pointer (some ⟨bs, 0, none⟩)] rfl rfl (cells_add (Blk.new w 84 [.pointer (some ⟨bs, 0, none⟩)])) (by intro u hu; simp at hu; subst hu; rfl) (by decide) (by decide) (by decide) ?_
    intro v1 w1 ho1 hg1 hn1
    obtain ⟨g1, cap1, sp1, rfl, hb1, hc1, hc2, hc3⟩ := owns_blk ho1 (by decide))
  have hng : w.heap.size ≤ g1 := by
    rcases hn1 with h | h
    · simp [Value.ownBlock] at h
    · have := h g1 rfl
      simp at this
      omega
  have hf1 : Fr (fun _ => False) w w1 := ((Fr.refl _ w).alloc _).then (Fr.of_grown hg1) (fun _ _ e => by simp [Value.ownBlock] at e)
  clear hn1 hg1 hc3 hb1 sp1
  have hg1w : g1 < w1.heap.size := by
    obtain ⟨_, _, _, he, hb2, _⟩ := owns_blk ho1 (by decide)
    cases he
    exact hb2.lt
  go_wp2
  rw [rounds_succ]
  go_upto_region 6 with (
    refine wpList_append_where rfl (.tmp 8) (.tmp 14) 91 rfl 84 i0 _ 1 8 Try.underlying91 I1.out I2.out I3.out I4.out rfl (by decide) (.slice (some ⟨g1, 0, none⟩) 1 cap1) 1 [.pointer (some ⟨bs, 0, none⟩)] rfl (Fr.owns ho1 ((Fr.refl (fun _ => False) w1).alloc _) (fun _ _ e => e)) _ 1 1 [.pointer (some ⟨bs, 15, none⟩)] rfl rfl (cells_add (Blk.new w1 84 [.pointer (some ⟨bs, 15, none⟩)])) (by intro u hu; simp at hu; subst hu; rfl) (by decide) (by decide) (by decide) ?_
    intro v2 w2 ho2 hg2 hn2
    obtain ⟨g2, cap2, sp2, rfl, hb2, hc1, hc2, hc3⟩ := owns_blk ho2 (by decide))
  have hf2 : Fr (fun _ => False) w w2 := (hf1.alloc _).then (Fr.of_grown hg2) (fun _ _ e => by simp [Value.ownBlock] at e; omega)
  clear hg2 hn2 hc3 hb2 sp2 ho1 hf1
  go_wp2
  rw [rounds_succ]
  go_wp2_with (
    go_at_call 43
    have h2 := H.out.keep hf2 (fun e => e)
    refine (path_Order w2 g2 cap2 bs 64 0 15 _ _ _ _ s.p0 s.p1 (SendS.seg0 h2) (SendS.seg1 h2) k0 k1 ho2).mono ?_
    rintro e w3 ⟨g3, cap3, rfl, ho3, hf3⟩)
  go_ret
  exact ⟨g3, cap3, rfl, ho3, hf2.trans hf3⟩

end Go.Proofs.Ytppnaeedangndaa
