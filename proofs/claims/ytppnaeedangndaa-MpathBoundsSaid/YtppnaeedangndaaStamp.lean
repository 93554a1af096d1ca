/- A datagram, as it goes by a way. -/
import Derived.Test.YtppnaeedangndaaChoose
import Derived.Test.YtppnaeedangndaaPrioF
namespace Go.Mm

def setWay (s : SendS) (i : Nat) (p : PathS) : SendS := if i = 0 then { s with p0 := p } else { s with p1 := p }
/-- A datagram by a way. -/
def stampD (s : SendS) (i : Nat) (d : DG) : DG := { d with path := i, tick := s.now, seq := (Go.Proofs.Ytppnaeedangndaa.wayAt s i).next }
/-- A sender whose way gave a number. -/
def numS (s : SendS) (i : Nat) : SendS := setWay s i { (Go.Proofs.Ytppnaeedangndaa.wayAt s i) with next := IntKind.u32.wrap ((Go.Proofs.Ytppnaeedangndaa.wayAt s i).next + 1) }
/-- One that goes. -/
def sentCells (i : Nat) (d : DG) : List Value := .int .i64 i :: d.cells

end Go.Mm
namespace Go.Proofs.Ytppnaeedangndaa
open Go.RowKit Go.Mm Go.Rg

theorem SendS.part {w : World} {b T : Nat} {s : SendS} (h : Blk w b T s.cells) (i : Nat) (hi : i < 2) :
    ∃ pre post, Seg w b T (i * 15) pre (wayAt s i).cells post ∧ ∀ w' p, Seg w' b T (i * 15) pre (PathS.cells p) post → Blk w' b T (setWay s i p).cells := by
  match i, hi with
  | 0, _ => exact ⟨_, _, SendS.seg0 h, fun w' p hp => SendS.of_seg0 hp⟩
  | 1, _ => exact ⟨_, _, SendS.seg1 h, fun w' p hp => SendS.of_seg1 hp⟩

theorem SendS.rest_cell {w : World} {b T : Nat} {s : SendS} (h : Blk w b T s.cells) (k : Nat) (_ : k < 6) : w.cell? ⟨b, 30 + k, none⟩ = s.rest[k]? := by
  rw [h.cell]
  unfold SendS.cells
  rw [List.getElem?_append_right (by simp [PathS.length_cells])]
  simp [PathS.length_cells]

theorem sz_sent : (Try.prog.info? 38).map (·.size) = some 12 := by kernel_rfl

def zSent : List Value := .int .i64 0 :: zDG

set_option maxRecDepth 100000 in
set_option maxHeartbeats 800000 in
theorem mpath_stamp (w : World) (bs : Nat) (s : SendS) (h : Blk w bs 64 s.cells) (i : Nat) (hi : i < 2) (d : DG) :
    Calls Try.prog 22 #[.pointer (some ⟨bs, 0, none⟩), .int .i64 i, .agg d.cells.toArray] w fun e w' => e = .returned (.agg (sentCells i (stampD s i d)).toArray) ∧ Blk w' bs 64 (numS s i).cells ∧ Fr (· = bs) w w' := by
  have H := Lib.hid h
  have hlt := h.lt
  clear h
  have i0 : (0 : Int) ≤ i := by omega
  have i1 : (i : Int) < 2 := by omega
  unfold stampD numS
  generalize hp : wayAt s i = p
  have HP := Lib.hid hp
  clear hp
  unfold DG.cells
  go_enter Try.func22, Try.ntmps22
  go_wp2
  have hs0 : Blk ((w.alloc (.cells d.cells.toArray 34)).alloc (.cells zSent.toArray 38)).drew bs 64 s.cells := ((H.out.alloc _).alloc _).drew
  have hd0 : Blk ((w.alloc (.cells d.cells.toArray 34)).alloc (.cells zSent.toArray 38)).drew w.heap.size 34 d.cells := ((Blk.new w _ _).alloc _).drew
  have hz0 : Blk ((w.alloc (.cells d.cells.toArray 34)).alloc (.cells zSent.toArray 38)).drew (w.heap.size + 1) 38 zSent := (Blk.new_at _ _ _ _ (by simp)).drew
  have hf0 : Fr (· = bs) w ((w.alloc (.cells d.cells.toArray 34)).alloc (.cells zSent.toArray 38)).drew := (((Fr.refl (· = bs) w).alloc _).alloc _).drew
  obtain ⟨C, hC⟩ : ∃ C : World → Prop, ∀ w', C w' ↔ w'.cell? ⟨bs, 33, none⟩ = some (.int .u32 s.now) := ⟨_, fun _ => Iff.rfl⟩
  have HC := Lib.hid hC; clear hC
  refine wp_region_T (by kernel_rfl) C (fun k => [0, 0, 0, 0, 0, 0, 0, 0, 0, 0, 2, 0, 2, 0, 2, 0, 2].getD k 0) (by kernel_rfl) ((HC.out _).2 (SendS.rest_cell hs0 3 (by decide))) ?_
  iterate 4 (refine wpT_step (fun K hK => ?_); go_simp; refine ⟨_, fun _ _ => rfl, hK _ _ ?_⟩; clear hK K)
  refine wpT_load1Q rfl rfl 30 _ rfl bs 33 rfl _ (fun w' hw' => (HC.out _).1 hw') Try.underlying30 rfl ?_
  iterate 5 (refine wpT_step (fun K hK => ?_); go_simp; refine ⟨_, fun _ _ => rfl, hK _ _ ?_⟩; clear hK K)
  obtain ⟨pre, post, hsg, hback⟩ := SendS.part hs0 i hi
  rw [HP.out] at hsg
  obtain ⟨q, hq⟩ : ∃ q : PathS, q = { p with next := IntKind.u32.wrap (p.next + 1) } := ⟨_, rfl⟩
  have HQ := Lib.hid hq
  refine wpT_loud rfl rfl ?_
  go_simp
  refine (path_Number _ bs 64 (i * 15) pre post p hsg).mono ?_
  rintro e w1 ⟨rfl, hs1, hf1⟩
  rw [← hq] at hs1
  have hs1 := hback _ _ hs1
  have hrest : (setWay s i q).rest = s.rest := by unfold setWay; split <;> rfl
  have hd1 := hd0.keep hf1 (by omega)
  have hz1 := hz0.keep hf1 (by omega)
  have hf2 := hf0.trans hf1
  clear hs0 hd0 hz0 hf0 hsg hback hq hf1
  have hlt1 := hz1.lt
  have k3 : w1.cell? ⟨w.heap.size, 3, none⟩ = some (.int .i64 d.path) := hd1.cell 3
  have k4 : w1.cell? ⟨w.heap.size, 4, none⟩ = some (.int .u32 d.tick) := hd1.cell 4
  have k2 : w1.cell? ⟨w.heap.size, 2, none⟩ = some (.int .u32 d.seq) := hd1.cell 2
  have f3 : w1.frozen? ⟨w.heap.size, 3, none⟩ = false := hd1.free _
  have f4 : w1.frozen? ⟨w.heap.size, 4, none⟩ = false := hd1.free _
  have f2 : w1.frozen? ⟨w.heap.size, 2, none⟩ = false := hd1.free _
  have hcc : ∀ w', Blk w' bs 64 (setWay s i q).cells → C w' := fun w' hb => (HC.out _).2 (by rw [SendS.rest_cell hb 3 (by decide), hrest]; rfl)
  have HCC := Lib.hid hcc
  clear hcc hrest
  refine ⟨HCC.out _ hs1, ?_⟩
  refine wpT_step (fun K hK => ?_); go_simp; refine ⟨_, fun _ _ => rfl, hK _ _ ?_⟩; clear hK K
  refine wpT_loud rfl rfl ?_
  go_simp
  refine ⟨HCC.out _ (hs1.setCell_ne _ _ (by show bs ≠ w.heap.size; omega)), ?_⟩
  refine wpT_step (fun K hK => ?_); go_simp; refine ⟨_, fun _ _ => rfl, hK _ _ ?_⟩; clear hK K
  refine wpT_loud rfl rfl ?_
  go_simp
  refine ⟨HCC.out _ ((hs1.setCell_ne _ _ (by show bs ≠ w.heap.size; omega)).setCell_ne _ _ (by show bs ≠ w.heap.size; omega)), ?_⟩
  refine wpT_step (fun K hK => ?_); go_simp; refine ⟨_, fun _ _ => rfl, hK _ _ ?_⟩; clear hK K
  refine wpT_loud rfl rfl ?_
  go_simp
  refine ⟨HCC.out _ (((hs1.setCell_ne _ _ (by show bs ≠ w.heap.size; omega)).setCell_ne _ _ (by show bs ≠ w.heap.size; omega)).setCell_ne _ _ (by show bs ≠ w.heap.size; omega)), ?_⟩
  refine wpT_nil ?_
  have hs3 := (((hs1.setCell_ne ⟨w.heap.size, 3, none⟩ (.int .i64 i) (by show bs ≠ w.heap.size; omega)).setCell_ne ⟨w.heap.size, 4, none⟩ (.int .u32 s.now) (by show bs ≠ w.heap.size; omega)).setCell_ne ⟨w.heap.size, 2, none⟩ (.int .u32 p.next) (by show bs ≠ w.heap.size; omega))
  have hd3 := ((hd1.setCell 3 (.int .i64 i)).setCell 4 (.int .u32 s.now)).setCell 2 (.int .u32 p.next)
  have hz3 := (((hz1.setCell_ne ⟨w.heap.size, 3, none⟩ (.int .i64 i) (by show w.heap.size + 1 ≠ w.heap.size; omega)).setCell_ne ⟨w.heap.size, 4, none⟩ (.int .u32 s.now) (by show w.heap.size + 1 ≠ w.heap.size; omega)).setCell_ne ⟨w.heap.size, 2, none⟩ (.int .u32 p.next) (by show w.heap.size + 1 ≠ w.heap.size; omega))
  have hf3 := ((hf2.setCell ⟨w.heap.size, 3, none⟩ (.int .i64 i) (.inr (Nat.le_refl _))).setCell ⟨w.heap.size, 4, none⟩ (.int .u32 s.now) (.inr (Nat.le_refl _))).setCell ⟨w.heap.size, 2, none⟩ (.int .u32 p.next) (.inr (Nat.le_refl _))
  generalize ((w1.setCell ⟨w.heap.size, 3, none⟩ (.int .i64 i)).setCell ⟨w.heap.size, 4, none⟩ (.int .u32 s.now)).setCell ⟨w.heap.size, 2, none⟩ (.int .u32 p.next) = W2 at hs3 hd3 hz3 hf3 ⊢
  clear hs1 hd1 hz1 hf2 k3 k4 k2 f3 f4 f2 HCC HC hlt1
  have one : ∀ u ∈ [Value.int .i64 i, .int .i64 d.kind, .int .u32 d.session, .int .u32 p.next, .int .i64 i, .int .u32 s.now, .int .u32 d.a, .int .u32 d.b, .int .i64 d.k, .int .i64 d.m, .int .i64 d.index, .slice d.da d.dl d.dc], u.oneCell' = true := by
    intro u hu
    rcases List.mem_cons.1 hu with h | h
    · subst h; rfl
    · exact DG.one ({ d with path := i, tick := s.now, seq := p.next } : DG) u h
  have HONE := Lib.hid one
  clear one
  go_upto_region 99 with (first
    | (refine wpList_store_agg rfl 38 (.tmp 6) (.tmp 23) rfl (w.heap.size + 1) 0 rfl [.int .i64 i, .int .i64 d.kind, .int .u32 d.session, .int .u32 p.next, .int .i64 i, .int .u32 s.now, .int .u32 d.a, .int .u32 d.b, .int .i64 d.k, .int .i64 d.m, .int .i64 d.index, .slice d.da d.dl d.dc] rfl _ zSent hz3 (by simp [zSent, zDG]) HONE.out sz_sent ?_
       intro w5 hz5 hg5
       rw [splice_whole _ _ (by simp [zSent, zDG])] at hz5)
    | (refine wpList_load_agg rfl 34 (.tmp 5) rfl w.heap.size 0 rfl [.int .i64 d.kind, .int .u32 d.session, .int .u32 p.next, .int .i64 i, .int .u32 s.now, .int .u32 d.a, .int .u32 d.b, .int .i64 d.k, .int .i64 d.m, .int .i64 d.index, .slice d.da d.dl d.dc] (Reads.whole hd3) Try.underlying34 rfl sz_dg ?_))
  refine bodyPost_ret (results_cell_agg rfl _ _ _ 0 _ rfl (Reads.whole hz5) Try.underlying38 rfl sz_sent) rfl ?_
  refine ⟨rfl, ?_, hf3.then hg5 (fun b hb e => by omega)⟩
  rw [HQ.out] at hs3
  exact hs3.keep hg5 (by omega)

end Go.Proofs.Ytppnaeedangndaa
