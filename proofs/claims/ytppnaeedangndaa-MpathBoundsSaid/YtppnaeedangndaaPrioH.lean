/- Walks over package prio at datagrams: one more. -/
import Derived.Test.YtppnaeedangndaaPrioG
namespace Go.Proofs.Ytppnaeedangndaa
open Go.RowKit Go.Mm Go.Rg

theorem info_item : (Try.prog.info? 81).map (fun i => (i.zero, i.size, i.bytes)) = some (some (.agg #[.int .i64 0, .int .i64 0, .int .i64 0, .int .u32 0, .int .u32 0, .int .i64 0, .int .u32 0, .int .u32 0, .int .u32 0, .int .i64 0, .int .i64 0, .int .i64 0, .slice none 0 0]), 13, 104) := by kernel_rfl

theorem cells_add {w : World} {g T : Nat} {cs : List Value} (h : Blk w g T cs) : ∀ j u, cs[j]? = some u → w.cell? ((⟨g, 0, none⟩ : Addr).add j) = some u := by
  intro j u hu
  have e : (⟨g, 0, none⟩ : Addr).add j = ⟨g, j, none⟩ := by unfold Addr.add; split <;> simp_all
  rw [e, h.cell]; exact hu

theorem field_item (w : World) (x : It) : (Instr.field 81 (.agg x.cells.toArray) 2).run Try.prog w = .ok (.agg x.d.cells.toArray) w := by kernel_rfl

/-- What is there behind the append and the move up. -/
theorem flat_snoc (L : List It) (x : It) : flat (L ++ [x]) = flat L ++ x.cells := by simp [flat]

theorem IsQ.ne_own {w : World} {bq : Nat} {room turns : Int} {v : Value} {L : List It} (hq : Blk w bq 79 [.int .i64 room, .int .i64 turns, v]) (ho : w.ownsRow 0 81 13 v L.length (flat L)) {b T : Nat} {cs : List Value} (hb : Blk w b T cs) (hT : T ≠ 81) : some b ≠ v.ownBlock := by
  rcases ho.2 with ⟨rfl, _⟩ | ⟨g, cap, cur, rfl, _, hh, _⟩
  · simp [Value.ownBlock]
  · simp only [Value.ownBlock, ne_eq, Option.some.injEq]
    rintro rfl
    have : Blk w b 81 cur.toList := ⟨by simpa using hh⟩
    exact hT (hb.same this).1

theorem QF.own {w : World} {bq : Nat} {room turns : Int} {v : Value} {n : Nat} {xs : List Value} (hq : Blk w bq 79 [.int .i64 room, .int .i64 turns, v]) (ho : w.ownsRow 0 81 13 v n xs) {b : Nat} (hb : some b = v.ownBlock) : QF w bq b := by
  rcases ho.2 with ⟨rfl, _⟩ | ⟨g, cap, cur, rfl, _⟩
  · simp [Value.ownBlock] at hb
  · simp only [Value.ownBlock, Option.some.injEq] at hb
    subst hb
    exact .inr ⟨_, _, _, _, hq⟩

theorem last_lt (l : List It) (n : Nat) : ∀ k, k < l.length → Hp.lastFrom ahead l n k < l.length := by
  induction n with
  | zero => intro k hk; exact hk
  | succ n ih =>
    intro k hk
    unfold Hp.lastFrom
    refine ih _ ?_
    split <;> omega

set_option maxRecDepth 100000 in
set_option maxHeartbeats 800000 in
theorem prio_Push (w : World) (bq : Nat) (room turns : Int) (L : List It) (h : IsQ w bq room turns L) (hm : L.length ≤ 256) (ht : 0 ≤ turns ∧ turns ≤ 4611686018427387904) (rank : Int) (d : DG) :
    Calls Try.prog 16 #[.pointer (some ⟨bq, 0, none⟩), .int .i64 rank, .agg d.cells.toArray] w fun e w' => 
      (((L.length : Int) < room → e = .returned (.tuple #[.agg zDG.toArray, .bool false]) ∧ IsQ w' bq room (turns + 1) (Hp.push ahead L ⟨rank, turns + 1, d⟩)) ∧
       (room ≤ L.length → e = .returned (.tuple #[.agg (Hp.nth (Hp.push ahead L ⟨rank, turns + 1, d⟩) (Hp.last ahead (Hp.push ahead L ⟨rank, turns + 1, d⟩))).d.cells.toArray, .bool true]) ∧
          IsQ w' bq room (turns + 1) (Hp.take ahead (Hp.push ahead L ⟨rank, turns + 1, d⟩) (Hp.last ahead (Hp.push ahead L ⟨rank, turns + 1, d⟩))))) ∧
      QStep bq w w' := by
  obtain ⟨v, hq, ho⟩ := h
  obtain ⟨ht1, ht2⟩ := ht
  have lq := hq.lt
  have q1 : w.cell? ⟨bq, 1, none⟩ = some (.int .i64 turns) := hq.cell 1
  have f1 : w.frozen? ⟨bq, 1, none⟩ = false := hq.free 1
  obtain ⟨x, hx⟩ : ∃ x : It, x = ⟨rank, turns + 1, d⟩ := ⟨_, rfl⟩
  obtain ⟨u, hu⟩ : ∃ u : Int, u = turns + 1 := ⟨_, rfl⟩
  have eu : turns + 1 = u := hu.symm
  obtain ⟨n, hn⟩ : ∃ n : Nat, n = L.length := ⟨_, rfl⟩
  rw [← hn]
  rw [← hn] at ho hm
  rw [← hx]
  rw [← hu] at hx ⊢
  have HX := Lib.hid hx; clear hx
  have HN := Lib.hid hn; clear hn hu
  obtain ⟨i0, hi, hz0, hz1, hz2⟩ := info_parts info_item
  have I1 := Lib.hid hi; have I2 := Lib.hid hz0; have I3 := Lib.hid hz1; have I4 := Lib.hid hz2
  clear hi hz0 hz1 hz2
  go_enter Try.func16, Try.ntmps16
  unfold DG.cells
  go_wp2
  have hq0 : Blk ((((w.setCell ⟨bq, 1, none⟩ (.int .i64 u)).alloc (.cells d.cells.toArray 34)).alloc (.cells zDG.toArray 34))) bq _ [.int .i64 room, .int .i64 u, v] := (((hq.setCell 1 (.int .i64 u)).alloc _).alloc _)
  have hd0 : Blk ((((w.setCell ⟨bq, 1, none⟩ (.int .i64 u)).alloc (.cells d.cells.toArray 34)).alloc (.cells zDG.toArray 34))) w.heap.size 34 d.cells := (Blk.new_at _ _ _ _ (by simp)).alloc _
  have hr0 : Blk ((((w.setCell ⟨bq, 1, none⟩ (.int .i64 u)).alloc (.cells d.cells.toArray 34)).alloc (.cells zDG.toArray 34))) (w.heap.size + 1) 34 zDG := Blk.new_at _ _ _ _ (by simp)
  have hf0 : Fr (· = bq) w ((((w.setCell ⟨bq, 1, none⟩ (.int .i64 u)).alloc (.cells d.cells.toArray 34)).alloc (.cells zDG.toArray 34))) := ((((Fr.refl (· = bq) w).setCell ⟨bq, 1, none⟩ (.int .i64 u) (.inl rfl)).alloc _).alloc _)
  have ho0 : World.ownsRow ((((w.setCell ⟨bq, 1, none⟩ (.int .i64 u)).alloc (.cells d.cells.toArray 34)).alloc (.cells zDG.toArray 34))) 0 81 13 v n (flat L) := hf0.owns ho (fun b hb e => by
    have := IsQ.ne_own hq (by rw [HN.out] at ho; exact ho) hq (by decide)
    subst e
    exact this hb.symm)
  clear q1 f1
  refine wp_region_T (by kernel_rfl) (fun _ => True) (fun k => [0, 0, 0, 0, 4, 0, 0, 0, 0, 4, 4, 0, 3, 2, 0, 0, 2].getD k 0) (by kernel_rfl) trivial ?_
  iterate 4 (refine wpT_step (fun K hK => ?_); go_simp; refine hK _ _ ?_; clear hK K)
  refine wpT_load1 rfl rfl 77 _ rfl bq 2 rfl v (hq0.drew.cell 2) Try.underlying77 rfl ?_
  iterate 4 (refine wpT_step (fun K hK => ?_); go_simp; refine hK _ _ ?_; clear hK K)
  refine wpT_load1 rfl rfl 3 _ rfl bq 1 rfl (.int .i64 u) (hq0.drew.cell 1) Try.underlying3 rfl ?_
  refine wpT_load_agg rfl rfl 34 _ rfl w.heap.size 0 rfl [.int .i64 d.kind, .int .u32 d.session, .int .u32 d.seq, .int .i64 d.path, .int .u32 d.tick, .int .u32 d.a, .int .u32 d.b, .int .i64 d.k, .int .i64 d.m, .int .i64 d.index, .slice d.da d.dl d.dc] (Reads.whole hd0.drew) Try.underlying34 rfl sz_dg ?_
  refine wpT_step (fun K hK => ?_); go_simp; refine hK _ _ ?_; clear hK K
  refine wpT_step (fun K hK => ?_)
  go_simp
  refine ⟨(Fr.refl _ _).alloc _, hK _ _ ?_⟩
  clear hK K
  refine wpT_loud rfl rfl ?_
  refine wp_append_where (.tmp 20) (.tmp 28) 77 rfl 81 i0 _ 13 104 Try.underlying77 I1.out I2.out I3.out I4.out rfl (by decide) v n (flat L) rfl (Fr.owns (ho0.alloc _) (S := fun _ => False) (Fr.refl _ _).drew (fun _ _ e => e)) _ 1 1 (⟨rank, u, d⟩ : It).cells rfl rfl (cells_add (Blk.new_at _ _ 81 _ (by simp)).drew) (It.one _) (by unfold maxLen; omega) (by omega) (by decide) ?_
  intro v1 w1 ho1 hg1 hw1
  refine ⟨trivial, ?_⟩
  have hf1 := Fr.of_grown hg1
  rw [← HX.out] at ho1
  have hno : ¬ some bq = v.ownBlock := IsQ.ne_own hq (by rw [HN.out] at ho; exact ho) hq (by decide)
  have hnd : ∀ b, w.heap.size ≤ b → ¬ some b = v.ownBlock := fun b hb e => by
    have h1 : b < w.heap.size := by
      have := ho.2
      rcases this with ⟨rfl, _⟩ | ⟨g, cap, cur, rfl, _, hh, _⟩
      · simp [Value.ownBlock] at e
      · simp [Value.ownBlock] at e
        subst e
        exact (Array.getElem?_eq_some_iff.1 hh).1
    omega
  have hq1 := (hq0.alloc _).drew.keep hf1 hno
  have hr1 := (hr0.alloc _).drew.keep hf1 (hnd _ (by omega))
  have hS1 : Fr (QF w bq) w w1 := ((hf0.alloc _).drew).mono (S' := QF w bq) (fun b _ e => .inl e) |>.then hf1 (fun b hb e => QF.own hq ho e)
  have how : ∀ b, b < w.heap.size → some b = v1.ownBlock → QF w bq b := fun b hb e => by
    rcases hw1 with hw1 | hw1
    · exact QF.own hq ho (e.trans hw1)
    · have := hw1 b e.symm
      simp at this
      omega
  clear hw1
  obtain ⟨m, hm1⟩ : ∃ m : Nat, m = n + 1 := ⟨_, rfl⟩
  rw [← hm1] at ho1
  obtain ⟨g, cap, sp, rfl, hb1, hc1, hc2, hc3⟩ := owns_blk ho1 (by omega)
  have em : (m : Int) - 1 = (n : Int) := by omega
  have b0m : 0 ≤ (m : Int) := by omega
  have bm : (m : Int) ≤ 257 := by omega
  have HM := Lib.hid hm1; clear hm1
  have hlen : (L ++ [x]).length = m := by have := HM.out; have := HN.out; simp; omega
  rw [← flat_snoc] at hb1 hc3
  have hne : bq ≠ g := hq1.ne hb1 (by decide)
  have hg : ∀ b, b < w.heap.size → b = g → QF w bq b := fun b hb e => how b hb (by rw [e]; rfl)
  have zg : w.heap.size + 1 ≠ g := fun e => by
    rw [← e] at hb1
    exact absurd (hr1.same hb1).1 (by decide)
  have z1 : w.heap.size + 1 < w1.heap.size := hr1.lt
  have q2 : w1.cell? ⟨bq, 2, none⟩ = some v := hq1.cell 2
  have f2 : w1.frozen? ⟨bq, 2, none⟩ = false := hq1.free 2
  have HC3 := Lib.hid hc3; clear hc3
  have Hlen := Lib.hid hlen; clear hlen
  clear hq0 hd0 hr0 hf0 ho0 hf1 hno hnd ho1 hg1 how eu
  iterate 2 (refine wpT_step (fun K hK => ?_); go_simp; refine hK _ _ ?_; clear hK K)
  refine wpT_step (fun K hK => ?_)
  go_simp
  refine hK _ _ ?_
  clear hK K
  refine wpT_nil ?_
  have hq2 : Blk (w1.setCell ⟨bq, 2, none⟩ (.slice (some ⟨g, 0, none⟩) m cap)) bq 79 (qCells room u g (L ++ [x]).length cap) := by rw [Hlen.out]; exact hq1.setCell 2 _
  have hb2 := hb1.setCell_ne ⟨bq, 2, none⟩ (.slice (some ⟨g, 0, none⟩) m cap) (Ne.symm hne)
  have hr2 := hr1.setCell_ne ⟨bq, 2, none⟩ (.slice (some ⟨g, 0, none⟩) m cap) (by simp; omega)
  have hS2 := hS1.setCell ⟨bq, 2, none⟩ (.slice (some ⟨g, 0, none⟩) m cap) (.inl (.inl rfl))
  clear hq1 hb1 hr1 hS1
  go_wp2_with fail
  refine (prio_up _ bq g _ _ room u cap (L ++ [x]) sp hq2 hb2 hne n (by rw [Hlen.out]; omega) (by rw [Hlen.out]; omega)).mono ?_
  rintro e w3 ⟨rfl, hb3, hg3⟩
  have hq3 := hq2.keep hg3 hne
  have hr3 := hr2.keep hg3 zg
  have hS3 := hS2.then hg3 hg
  have hpush : Hp.up ahead (L ++ [x]) n = Hp.push ahead L x := by rw [HN.out]; rfl
  rw [hpush] at hb3
  have hpl : (Hp.push ahead L x).length = m := by rw [← Hlen.out, Hp.push, Hp.length_up]
  rw [Hlen.out, ← hpl] at hq3
  have Hpl := Lib.hid hpl
  generalize hL' : Hp.push ahead L x = L' at hb3 hq3 hpl Hpl ⊢
  have hc4 : (flat L' ++ sp).length = cap * 13 := by
    have h1 := HC3.out
    rw [List.length_append, length_flat, Hlen.out] at h1
    rw [List.length_append, length_flat, hpl]
    exact h1
  have HC4 := Lib.hid hc4
  have HL' := Lib.hid hL'
  clear hL' hc4 hpl hpush hq2 hb2 hr2 hS2 hg3 HC3 q2 f2
  have q2 : w3.cell? ⟨bq, 2, none⟩ = some (.slice (some ⟨g, 0, none⟩) m cap) := by have := hq3.cell 2; rw [Hpl.out] at this; exact this
  have q0 : w3.cell? ⟨bq, 0, none⟩ = some (.int .i64 room) := hq3.cell 0
  have z3 : w.heap.size + 1 < w3.heap.size := hr3.lt
  by_cases hroom : room < (m : Int)
  · go_wp2
    refine wp_region_T (by kernel_rfl) (fun _ => True) (fun k => [0, 0, 0, 1, 0, 0, 0, 0, 1, 0].getD k 0) (by kernel_rfl) trivial ?_
    iterate 10 (refine wpT_step (fun K hK => ?_); go_simp; refine hK _ _ ?_; clear hK K)
    refine wpT_nil ?_
    go_wp2_with fail
    refine (prio_last _ bq g _ _ room u cap L' sp hq3.drew hb3.drew (by rw [Hpl.out]; have := HM.out; omega) (by rw [Hpl.out]; omega)).mono ?_
    rintro e w4 ⟨rfl, hg4⟩
    have hq4 := hq3.drew.keep hg4 (fun e => e)
    have hb4 := hb3.drew.keep hg4 (fun e => e)
    have hr4 := hr3.drew.keep hg4 (fun e => e)
    have hS4 := hS3.drew.then hg4 (fun _ _ e => e.elim)
    have hlast : Hp.last ahead L' < L'.length := by
      unfold Hp.last
      refine last_lt L' _ _ ?_
      rw [Hpl.out]; have := HM.out; omega
    clear hq3 hb3 hr3 hS3 hg4 q2 q0
    go_wp2_with fail
    refine (prio_take _ bq g _ _ room u cap L' sp hq4 hb4 hne (Hp.last ahead L') hlast (by rw [Hpl.out]; omega) (by rw [Hpl.out]; exact hc1)).mono ?_
    rintro e w5 ⟨rfl, ⟨sp', hb5, hs5⟩, hq5, hg5⟩
    have hr5 := hr4.keep hg5 (by omega)
    have hS5 := hS4.then hg5 (fun b hb e => e.elim (fun e => hg b hb e) (fun e => .inl e))
    have HS := Lib.hid hs5; clear hs5
    clear hq4 hb4 hr4 hS4 hg5
    have hfd := fun w => field_item w (Hp.nth L' (Hp.last ahead L'))
    have z5 : w.heap.size + 1 < w5.heap.size := hr5.lt
    go_wp2_with (refine wpList_store_agg rfl 34 (.tmp 6) (.tmp 54) rfl _ 0 rfl (Hp.nth L' (Hp.last ahead L')).d.cells rfl _ _ hr5 (by rw [DG.length_cells]; exact Nat.le_refl _) (DG.one _) sz_dg ?_; intro w6 hr6 hg6; rw [splice_whole _ _ (by rw [DG.length_cells]; rfl)] at hr6)
    refine bodyPost_ret (results_mem1 rfl _ _ _ 0 _ rfl (Reads.whole hr6) Try.underlying34 rfl sz_dg) rfl ?_
    have hl : (Hp.take ahead L' (Hp.last ahead L')).length = L'.length - 1 := Hp.length_take ahead L' _ hlast
    have hq6 := hq5.keep hg6 (by omega)
    have hb6 := hb5.keep hg6 (fun e => zg e.symm)
    have hM := HM.out
    rw [HL'.out]
    refine ⟨⟨fun h => by omega, fun _ => ⟨rfl, IsQ.mk (by rw [hl]; exact hq6) hb6 (by rw [hl, Hpl.out]; omega) hc2 (by rw [HS.out, HC4.out])⟩⟩, hS5.then hg6 (fun b hb e => by omega), fun b hb hQ => ?_⟩
    rcases hQ with hQ | ⟨_, _, _, _, hQ⟩
    · exact .inl hQ
    · have := (hq6.same hQ).2
      simp only [qCells, List.cons.injEq, Value.slice.injEq, Option.some.injEq, Addr.mk.injEq] at this
      exact hg b hb this.2.2.1.1.1.symm
  · have hroom' : (m : Int) ≤ room := by omega
    clear hroom
    go_wp2
    refine wp_region_T (by kernel_rfl) (fun _ => True) (fun k => [0, 0, 0, 1, 0, 0, 0, 0, 1, 0].getD k 0) (by kernel_rfl) trivial ?_
    iterate 10 (refine wpT_step (fun K hK => ?_); go_simp; refine hK _ _ ?_; clear hK K)
    refine wpT_nil ?_
    have hr4 := hr3.drew.alloc (.cells zDG.toArray 34)
    have hn4 := Blk.new w3.drew 34 zDG
    go_wp2_with (first | (refine wpList_load_agg rfl 34 (.tmp 8) rfl w3.heap.size 0 rfl zDG (Reads.whole hn4) Try.underlying34 rfl sz_dg ?_) | (refine wpList_store_agg rfl 34 (.tmp 6) (.tmp 55) rfl _ 0 rfl zDG rfl _ _ hr4 (by exact Nat.le_refl _) (List.all_eq_true.1 (show zDG.all Value.oneCell' = true from rfl)) sz_dg ?_; intro w6 hr6 hg6; rw [splice_whole _ _ rfl] at hr6))
    refine bodyPost_ret (results_mem1 rfl _ _ _ 0 _ rfl (Reads.whole hr6) Try.underlying34 rfl sz_dg) rfl ?_
    have hq6 := (hq3.drew.alloc (.cells zDG.toArray 34)).keep hg6 (by omega)
    have hb6 := (hb3.drew.alloc (.cells zDG.toArray 34)).keep hg6 (fun e => zg e.symm)
    have hM := HM.out
    rw [HL'.out]
    refine ⟨⟨fun _ => ⟨rfl, IsQ.mk hq6 hb6 (by rw [Hpl.out]; exact hc1) hc2 HC4.out⟩, fun h => by omega⟩, (hS3.drew.alloc _).then hg6 (fun b hb e => by omega), fun b hb hQ => ?_⟩
    rcases hQ with hQ | ⟨_, _, _, _, hQ⟩
    · exact .inl hQ
    · have := (hq6.same hQ).2
      simp only [qCells, List.cons.injEq, Value.slice.injEq, Option.some.injEq, Addr.mk.injEq] at this
      exact hg b hb this.2.2.1.1.1.symm
end Go.Proofs.Ytppnaeedangndaa
