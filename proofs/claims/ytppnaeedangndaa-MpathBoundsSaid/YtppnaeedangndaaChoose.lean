/- By which ways one of a rank goes. -/
import Derived.Test.YtppnaeedangndaaSend
namespace Go.Proofs.Ytppnaeedangndaa
open Go.RowKit Go.Mm Go.Rg

/-- Does one of a rank go by many ways? -/
def manyS (best : PathS) (rank : Int) : Bool := decide (rank ≤ 0) || (rank == 1 && (decide (6553 ≤ best.loss) || stateOf best.quiet != 0))

/-- By which ways one of a rank goes. -/
def chooseS (s : SendS) (rank : Int) : List Nat :=
  if manyS (wayAt s (firstP s.p0 s.p1)) rank = true then
    if stateOf (wayAt s (1 - firstP s.p0 s.p1)).quiet ≠ 2 ∨ stateOf (wayAt s (firstP s.p0 s.p1)).quiet = 2 then [firstP s.p0 s.p1, 1 - firstP s.p0 s.p1] else [firstP s.p0 s.p1]
  else [firstP s.p0 s.p1]

theorem firstP_lt (p q : PathS) : firstP p q < 2 := by unfold firstP; split <;> omega

theorem SendS.segAt {w : World} {b T : Nat} {s : SendS} (h : Blk w b T s.cells) (f : Nat) (hf : f < 2) : ∃ pre post, Seg w b T (f * 15) pre (wayAt s f).cells post := by
  match f, hf with
  | 0, _ => exact ⟨_, _, SendS.seg0 h⟩
  | 1, _ => exact ⟨_, _, SendS.seg1 h⟩

def ints (l : List Nat) : List Value := l.map (fun (n : Nat) => Value.int .i64 (n : Int))

set_option maxRecDepth 100000 in
set_option maxHeartbeats 800000 in
theorem mpath_Choose (w : World) (bs : Nat) (s : SendS) (h : Blk w bs 64 s.cells) (k0 : s.p0.Ok) (k1 : s.p1.Ok) (rank : Int) :
    Calls Try.prog 18 #[.pointer (some ⟨bs, 0, none⟩), .int .i64 rank] w fun e w' => ∃ g cap cs, e = .returned (.slice (some ⟨g, 0, none⟩) (chooseS s rank).length cap) ∧ (chooseS s rank).length ≤ cap ∧ cap ≤ maxLen ∧ Blk w' g 3 (ints (chooseS s rank) ++ cs) ∧ Fr (fun _ => False) w w' := by
  have H := Lib.hid h
  obtain ⟨i0, hi, hz0, hz1, hz2⟩ := info_parts info_int
  have I1 := Lib.hid hi; have I2 := Lib.hid hz0; have I3 := Lib.hid hz1; have I4 := Lib.hid hz2
  clear hi hz0 hz1 hz2 h
  have O := Lib.hid (mpath_order w bs s H.out k0 k1)
  clear k0 k1
  have hflt := firstP_lt s.p0 s.p1
  unfold chooseS
  generalize firstP s.p0 s.p1 = f at *
  obtain ⟨o, ho⟩ : ∃ o, o = 1 - f := ⟨_, rfl⟩
  rw [← ho] at O ⊢
  have hf0 : (0 : Int) ≤ f := by omega
  have hf1 : (f : Int) < 2 := by omega
  have ho0 : (0 : Int) ≤ o := by omega
  have ho1 : (o : Int) < 2 := by omega
  have olt : o < 2 := by omega
  clear ho
  have S1 := Lib.hid (fun (w' : World) (hb : Blk w' bs 64 s.cells) => SendS.segAt hb f hflt)
  have S2 := Lib.hid (fun (w' : World) (hb : Blk w' bs 64 s.cells) => SendS.segAt hb o olt)
  unfold manyS
  generalize wayAt s f = best at *
  generalize wayAt s o = other at *
  obtain ⟨sb, hsb⟩ : ∃ x, x = stateOf best.quiet := ⟨_, rfl⟩
  obtain ⟨so, hso⟩ : ∃ x, x = stateOf other.quiet := ⟨_, rfl⟩
  rw [← hsb, ← hso]
  have HSB := Lib.hid hsb; have HSO := Lib.hid hso
  clear hsb hso
  obtain ⟨L, hL⟩ : ∃ L : List Nat, L = if (decide (rank ≤ 0) || (rank == 1 && (decide (6553 ≤ best.loss) || sb != 0))) = true then if so ≠ 2 ∨ sb = 2 then [f, o] else [f] else [f] := ⟨_, rfl⟩
  rw [← hL]
  have HL := Lib.hid hL
  clear hL
  go_enter Try.func18, Try.ntmps18
  go_upto_region 2 with (
    go_at_call 31
    refine O.out.mono ?_
    rintro e w1 ⟨g, cap, rfl, hrow, hf1⟩)
  have hc0 : w1.cell? ⟨g, 0, none⟩ = some (.int .i64 f) := cells_of_owns hrow 0 _ rfl
  have hc1 : w1.cell? ⟨g, 1, none⟩ = some (.int .i64 o) := cells_of_owns hrow 1 _ rfl
  have hf2 : Fr (fun _ => False) w w1 := hf1
  obtain ⟨pre1, post1, hs1⟩ := S1.out _ (H.out.keep hf1 (fun e => e))
  obtain ⟨pre2, post2, hs2⟩ := S2.out _ (H.out.keep hf1 (fun e => e))
  clear S1 S2
  have hs1 := hs1.drew
  have hs2 := hs2.drew
  have hrow := Fr.owns hrow (Fr.refl (fun _ => False) w1).drew (fun _ _ e => e)
  have hf1 := hf1.drew
  go_wp2
  refine wp_region_T (by kernel_rfl) (fun _ => True) (fun k => [0, 0, 0, 1, 0, 0, 0, 0].getD k 0) (by kernel_rfl) trivial ?_
  iterate 8 (refine wpT_step (fun K hK => ?_); go_simp; refine hK _ _ ?_; clear hK K)
  refine wpT_nil ?_
  clear hc0 hc1
  generalize w1.drew = w2 at *
  have hc1 : w2.cell? ⟨g, 1, none⟩ = some (.int .i64 o) := cells_of_owns hrow 1 _ rfl
  have hls : w2.cell? ⟨bs, f * 15, none⟩ = some (.int .i64 best.loss) := hs1.cell0 (by rw [PathS.length_cells]; decide)
  have HS1 := Lib.hid hs1; have HS2 := Lib.hid hs2
  clear hs1 hs2
  have parts : ∀ E : Bool, E = (decide (rank ≤ 0) || (rank == 1 && (decide (6553 ≤ best.loss) || sb != 0))) →
      (rank ≤ 0 ∧ E = true) ∨ (decide (rank ≤ 0) = false ∧ (rank == 1) = true ∧ 6553 ≤ best.loss ∧ E = true) ∨ (decide (rank ≤ 0) = false ∧ (rank == 1) = true ∧ decide (6553 ≤ best.loss) = false ∧ (sb != 0) = false ∧ E = false) ∨
      (decide (rank ≤ 0) = false ∧ (rank == 1) = true ∧ decide (6553 ≤ best.loss) = false ∧ (sb != 0) = true ∧ E = true) ∨ (decide (rank ≤ 0) = false ∧ (rank == 1) = false ∧ E = false) := by
    rintro E rfl
    by_cases c1 : rank ≤ 0
    · exact .inl ⟨c1, by simp [c1]⟩
    · by_cases c2 : rank = 1
      · by_cases c3 : 6553 ≤ best.loss
        · exact .inr (.inl ⟨by simp [c1], by simp [c2], c3, by simp [c2, c3]⟩)
        · by_cases c4 : sb = 0
          · exact .inr (.inr (.inl ⟨by simp [c1], by simp [c2], by simp [c3], by simp [c4], by simp [c1, c3, c4]⟩))
          · exact .inr (.inr (.inr (.inl ⟨by simp [c1], by simp [c2], by simp [c3], by simp [c4], by simp [c2, c4]⟩)))
      · exact .inr (.inr (.inr (.inr ⟨by simp [c1], by simp [c2], by simp [c1, c2]⟩)))
  rcases parts _ rfl with ⟨d1, em⟩ | ⟨d1, d2, d3, em⟩ | ⟨d1, d2, d3, d4, em⟩ | ⟨d1, d2, d3, d4, em⟩ | ⟨d1, d2, em⟩
  all_goals
    have HL2 := HL.out
    rw [em] at HL2
    clear em HL parts
    have HL := Lib.hid HL2
    clear HL2
    go_upto_region 4 with (
      go_at_call 32
      refine (path_State _ _ _ _ _ _ best HS1.out).mono ?_
      rintro e w' ⟨rfl, rfl⟩
      rw [← HSB.out])
  all_goals
    have c2 : (2 : Int) ≤ cap := by
      obtain ⟨_, _, cs, he, hb2, hc, hm, _⟩ := owns_blk hrow (by decide)
      cases he
      omega
    have hc0 : w2.cell? ⟨g, 0, none⟩ = some (.int .i64 f) := cells_of_owns hrow 0 _ rfl
    go_wp2
  all_goals try (
    go_ret
    have eL : L = [f] := HL.out
    subst eL
    obtain ⟨_, _, cs, he, hb2, hc, hm, _⟩ := owns_blk hrow (by decide)
    cases he
    exact ⟨g, cap, .int .i64 o :: cs, rfl, (by show 1 ≤ cap; omega), hm, hb2, hf1⟩)
  all_goals
    refine wp_loop_rounds 2 ?_
    rw [rounds_succ]
    go_upto_region 10 with fail
    have parts : ((so != 2) = true ∧ L = [f, o]) ∨ ((so != 2) = false ∧ (sb == 2) = true ∧ L = [f, o]) ∨ ((so != 2) = false ∧ (sb == 2) = false ∧ L = [f]) := by
      have e : L = if so ≠ 2 ∨ sb = 2 then [f, o] else [f] := HL.out
      by_cases c1 : so = 2
      · by_cases c2 : sb = 2
        · exact .inr (.inl ⟨by simp [c1], by simp [c2], by rw [e, if_pos (.inr c2)]⟩)
        · exact .inr (.inr ⟨by simp [c1], by simp [c2], by rw [e, if_neg (by simp [c1, c2])]⟩)
      · exact .inl ⟨by simp [c1], by rw [e, if_pos (.inl c1)]⟩
    rcases parts with ⟨d5, eL⟩ | ⟨d5, d6, eL⟩ | ⟨d5, d6, eL⟩
  all_goals
    have EL := Lib.hid eL
    clear eL HL
    go_wp2_with first
      | (go_at_call 32; with_reducible refine (path_State _ bs _ (o * 15) pre2 post2 other HS2.out).mono ?_; rintro e w' ⟨rfl, rfl⟩; rw [← HSO.out])
      | (go_at_call 32; with_reducible refine (path_State _ bs _ (f * 15) pre1 post1 best HS1.out).mono ?_; rintro e w' ⟨rfl, rfl⟩; rw [← HSB.out])
      | (refine wpList_append_full rfl (.tmp 64) (.tmp 66) 24 rfl 3 i0 _ 1 8 Try.underlying24 I1.out I2.out I3.out I4.out rfl ⟨g, 0, none⟩ 1 1 rfl [.int .i64 f] rfl (fun j v hj => by
          match j, hj with
          | 0, hj => cases hj; exact (cells_of_owns (Fr.owns hrow ((Fr.refl (fun _ => False) w2).alloc _) (fun _ _ e => e)) 0 _ rfl)) _ 1 1 [.int .i64 o] rfl rfl (cells_add (Blk.new w2 3 [.int .i64 o])) (by decide) (by decide) (by decide) ?_
         intro cap3 w3 ho3 hf3)
  all_goals
    rw [rounds_succ]
    go_wp2
    go_ret
    have eL := EL.out
    subst eL
  all_goals first
    | (obtain ⟨_, _, cs, he, hb2, hc, hm, _⟩ := owns_blk ho3 (by decide)
       cases he
       exact ⟨_, cap3, cs, rfl, hc, hm, by simpa [ints] using hb2, (hf1.alloc _).trans hf3⟩)
    | (obtain ⟨_, _, cs, he, hb2, hc, hm, _⟩ := owns_blk hrow (by decide)
       cases he
       exact ⟨g, 1, .int .i64 o :: cs, rfl, Nat.le_refl 1, (by decide), hb2, hf1⟩)

end Go.Proofs.Ytppnaeedangndaa
