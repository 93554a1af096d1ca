/- Walks over packages stats and path: a mark; a datagram came by a way. -/
import Derived.Test.YtppnaeedangndaaSeq
import Derived.Test.YtppnaeedangndaaPathT
namespace Go.Mm

/-- A loss behind a mark. -/
def markL (loss aim : Int) : Int := loss + (aim - loss) / 16

theorem markL_bd (loss aim : Int) (h0 : 0 ≤ loss) (h1 : loss ≤ 65535) (t0 : 0 ≤ aim) (t1 : aim ≤ 65535) : 0 ≤ markL loss aim ∧ markL loss aim ≤ 65535 := by unfold markL; omega

def lostTo (lost : Bool) : Int := if lost = true then 65535 else 0

theorem Seg.left {w : World} {b T o : Nat} {pre xs ys post : List Value} (h : Seg w b T o pre (xs ++ ys) post) : Seg w b T o pre xs (ys ++ post) := ⟨by have := h.blk; simpa [List.append_assoc] using this, h.off⟩
theorem Seg.right {w : World} {b T o : Nat} {pre xs ys post : List Value} (h : Seg w b T o pre (xs ++ ys) post) : Seg w b T (o + xs.length) (pre ++ xs) ys post := ⟨by have := h.blk; simpa [List.append_assoc] using this, by rw [List.length_append, h.off]⟩
theorem Seg.ofLeft {w : World} {b T o : Nat} {pre xs ys post : List Value} (h : Seg w b T o pre xs (ys ++ post)) : Seg w b T o pre (xs ++ ys) post := ⟨by have := h.blk; simpa [List.append_assoc] using this, h.off⟩
theorem Seg.ofRight {w : World} {b T o : Nat} {pre xs ys post : List Value} (ho : pre.length = o) (h : Seg w b T (o + xs.length) (pre ++ xs) ys post) : Seg w b T o pre (xs ++ ys) post := ⟨by have := h.blk; simpa [List.append_assoc] using this, ho⟩

def PathS.seen (p : PathS) : SeenS := ⟨p.any, p.top, p.bits, p.came, p.twice, p.lost⟩
def PathS.tail (p : PathS) : List Value := [.int .i64 p.quiet, .int .i64 p.probe, .int .i64 p.gap, .int .u32 p.next]
theorem PathS.parts (p : PathS) : p.cells = p.stats ++ (p.seen.cells ++ p.tail) := rfl
def PathS.withSeen (p : PathS) (s : SeenS) : PathS := { p with any := s.any, top := s.top, bits := s.bits, came := s.came, twice := s.twice, lost := s.lost }
def PathS.marked (p : PathS) (lost : Bool) : PathS := { p with loss := markL p.loss (lostTo lost), marks := p.marks + 1 }
def PathS.markedN (p : PathS) : Nat → PathS
  | 0 => p
  | k + 1 => (p.markedN k).marked true

/-- A datagram came by a way. -/
def heardS (p : PathS) (n : Int) : PathS × Int :=
  let t := takeSeen p.seen n
  let q : PathS := { p.withSeen t.1 with quiet := 0, probe := 0, gap := 0 }
  if t.2 = 0 then ((q.markedN (if p.any = true then (min (t.1.lost - p.lost) 64).toNat else 0)).marked false, 0) else (q, t.2)

theorem markedN_kept (p : PathS) (k : Nat) : (p.markedN k).seen = p.seen ∧ (p.markedN k).rtt = p.rtt ∧ (p.markedN k).var = p.var ∧ (p.markedN k).trips = p.trips ∧ (p.markedN k).quiet = p.quiet ∧ (p.markedN k).probe = p.probe ∧ (p.markedN k).gap = p.gap ∧ (p.markedN k).next = p.next ∧ (p.markedN k).marks = p.marks + k := by
  induction k with
  | zero => exact ⟨rfl, rfl, rfl, rfl, rfl, rfl, rfl, rfl, by simp [PathS.markedN]⟩
  | succ k ih =>
    obtain ⟨h1, h2, h3, h4, h5, h6, h7, h8, h9⟩ := ih
    exact ⟨h1, h2, h3, h4, h5, h6, h7, h8, by show (p.markedN k).marks + 1 = _; rw [h9]; omega⟩

theorem markedN_loss (p : PathS) (k : Nat) (h0 : 0 ≤ p.loss) (h1 : p.loss ≤ 65535) : 0 ≤ (p.markedN k).loss ∧ (p.markedN k).loss ≤ 65535 := by
  induction k with
  | zero => exact ⟨h0, h1⟩
  | succ k ih => exact markL_bd _ _ ih.1 ih.2 (by decide) (by decide)

end Go.Mm
namespace Go.Proofs.Ytppnaeedangndaa
open Go.RowKit Go.Mm Go.Rg

set_option maxHeartbeats 400000 in
theorem word_Floor (a b : Int) (w : World) (h : 2 ≤ b) (hb : b ≤ 9223372036854775807) (a0 : -9223372036854775808 ≤ a) (a1 : a ≤ 9223372036854775807) :
    Calls Try.prog 50 #[.int .i64 a, .int .i64 b] w fun e w' => e = .returned (.int .i64 (a / b)) ∧ w = w' := by
  have z0 : (b == 0) = false := by simp; omega
  have z1 : (b == -1) = false := by simp; omega
  have zb : decide (b < 0) = false := by simp; omega
  by_cases hn : 0 ≤ a
  · have za : decide (a < 0) = false := by simp; omega
    have q0 : 0 ≤ a / b := Int.ediv_nonneg hn (by omega)
    have q1 : a / b ≤ a := Int.ediv_le_self b hn
    clear q0 q1
    go_enter Try.func50, Try.ntmps50
    go_wp2
    all_goals (go_ret; exact ⟨ret_int rfl, rfl⟩)
  · have za : decide (a < 0) = true := by simp; omega
    obtain ⟨n, rfl⟩ : ∃ n, a = -n := ⟨-a, by omega⟩
    have hn0 : 0 ≤ n := by omega
    have e2 : -(n.tdiv b) = -(n / b) := by rw [Int.tdiv_eq_ediv_of_nonneg hn0]
    have key := Int.mul_ediv_add_emod n b
    have r0 := Int.emod_nonneg n (show b ≠ 0 by omega)
    have r1 := Int.emod_lt_of_pos n (show 0 < b by omega)
    have q0 : 0 ≤ n / b := Int.ediv_nonneg hn0 (by omega)
    have q1 : n / b ≤ n := Int.ediv_le_self b hn0
    have q2 : 2 * (n / b) ≤ n := by
      have h1 : n / b * 2 ≤ n / b * b := Int.mul_le_mul_of_nonneg_left h q0
      have h2 : b * (n / b) = n / b * b := Int.mul_comm _ _
      omega
    by_cases hr0 : n % b = 0
    · have e3 : -n / b = -(n / b) := by
        have h1 : -n = b * -(n / b) := by rw [Int.mul_neg]; omega
        rw [h1, Int.mul_ediv_cancel_left _ (by omega)]
      have z3 : (-(n % b) != 0) = false := by rw [hr0]; rfl
      rw [e3]
      have E : Hid (wrap64 (-(n.tdiv b)) = -(n / b)) := Lib.hid (by rw [e2]; unfold wrap64; omega)
      clear e2 e3 key r0 r1 q0 q1 q2 hr0
      go_enter Try.func50, Try.ntmps50
      go_wp2
      all_goals (go_ret; refine ⟨ret_int ?_, rfl⟩; exact E.out)
    · have e3 : -n / b = -(n / b) - 1 := by
        have h1 : -n = (b - n % b) + b * (-(n / b) - 1) := by
          rw [Int.mul_sub, Int.mul_neg]; omega
        rw [h1, Int.add_mul_ediv_left _ _ (by omega), Int.ediv_eq_zero_of_lt (by omega) (by omega)]
        omega
      have z3 : (-(n % b) != 0) = true := by simp; omega
      rw [e3]
      have E : Hid (wrap64 (wrap64 (-(n.tdiv b)) - 1) = -(n / b) - 1) := Lib.hid (by rw [e2]; unfold wrap64; omega)
      clear e2 e3 key r0 r1 q0 q1 q2 hr0
      go_enter Try.func50, Try.ntmps50
      go_wp2
      all_goals (go_ret; refine ⟨ret_int ?_, rfl⟩; exact E.out)

theorem stats_toward (n aim share : Int) (w : World) (h : 2 ≤ share) (h1 : share ≤ 65536) (n0 : -2305843009213693952 ≤ n) (n1 : n ≤ 2305843009213693952) (a0 : -2305843009213693952 ≤ aim - n) (a1 : aim - n ≤ 2305843009213693952) :
    Calls Try.prog 47 #[.int .i64 n, .int .i64 aim, .int .i64 share] w fun e w' => e = .returned (.int .i64 (n + (aim - n) / share)) ∧ w = w' := by
  have F := Lib.hid (fun w => word_Floor (aim - n) share w h (by omega) (by omega) (by omega))
  have k0 := Int.mul_ediv_add_emod (aim - n) share
  have k1 := Int.emod_nonneg (aim - n) (show share ≠ 0 by omega)
  have k2 := Int.emod_lt_of_pos (aim - n) (show 0 < share by omega)
  obtain ⟨q, hq⟩ : ∃ q, q = (aim - n) / share := ⟨_, rfl⟩
  rw [← hq] at k0 F ⊢
  have hq1 : q ≤ 2305843009213693952 := by
    rw [hq]
    have : (aim - n) / share ≤ 2305843009213693952 / share := Int.ediv_le_ediv (by omega) a1
    have h2 : (2305843009213693952 : Int) / share ≤ 2305843009213693952 := Int.ediv_le_self share (by decide)
    omega
  have hq0 : -2305843009213693952 ≤ q := by
    rw [hq]
    have : (-2305843009213693952 : Int) / share ≤ (aim - n) / share := Int.ediv_le_ediv (by omega) a0
    have h2 : (-2305843009213693952 : Int) ≤ -2305843009213693952 / share := by
      refine (Int.le_ediv_iff_mul_le (by omega)).2 ?_
      omega
    omega
  clear k0 k1 k2 hq
  go_enter Try.func47, Try.ntmps47
  go_wp2_with (go_at_call 50; refine (F.out _).mono ?_; rintro e w' ⟨rfl, rfl⟩)
  go_ret
  exact ⟨rfl, rfl⟩

set_option maxHeartbeats 400000 in
theorem stats_Mark (w : World) (b T o : Nat) (pre post : List Value) (p : PathS) (h : Seg w b T o pre p.cells post) (lost : Bool) (l0 : 0 ≤ p.loss) (l1 : p.loss ≤ 65535) (m0 : 0 ≤ p.marks) (m1 : p.marks ≤ 4611686018427387904) :
    Calls Try.prog 37 #[.pointer (some ⟨b, o, none⟩), .bool lost] w fun e w' => e = .returned (.tuple #[]) ∧ Seg w' b T o pre (p.marked lost).cells post ∧ Fr (· = b) w w' := by
  have k0 : w.cell? ⟨b, o, none⟩ = some (.int .i64 p.loss) := h.cell0 (by rw [PathS.length_cells]; omega)
  have k3 : w.cell? ⟨b, o + 3, none⟩ = some (.int .i64 p.marks) := h.cell 3 (by rw [PathS.length_cells]; omega)
  have f0 : w.frozen? ⟨b, o, none⟩ = false := h.free _
  have f3 : w.frozen? ⟨b, o + 3, none⟩ = false := h.free _
  have H := Lib.hid h
  clear h
  obtain ⟨aim, ha⟩ : ∃ aim, aim = lostTo lost := ⟨_, rfl⟩
  have ab : 0 ≤ aim ∧ aim ≤ 65535 := by rw [ha]; unfold lostTo; split <;> omega
  obtain ⟨ab0, ab1⟩ := ab
  have TW := Lib.hid (fun w => stats_toward p.loss aim 16 w (by decide) (by decide) (by omega) (by omega) (by omega) (by omega))
  have HQ : Hid (p.marked lost = { p with loss := p.loss + (aim - p.loss) / 16, marks := p.marks + 1 }) := Lib.hid (by unfold PathS.marked markL; rw [ha])
  have HA := Lib.hid ha
  clear ha
  cases lost
  · have hv := HA.out
    simp only [lostTo, Bool.false_eq_true, if_false] at hv
    subst hv
    go_enter Try.func37, Try.ntmps37
    go_wp2_with (go_at_call 47; refine (TW.out _).mono ?_; rintro e w' ⟨rfl, rfl⟩)
    go_end0
    rw [HQ.out]
    refine ⟨rfl, ?_, ((Fr.refl (· = b) w).setCell _ _ (.inl rfl)).setCell _ _ (.inl rfl)⟩
    have := (H.out.setCell0 (.int .i64 (p.loss + (0 - p.loss) / 16)) (by simp [PathS.cells])).setCell 3 (.int .i64 (p.marks + 1)) (by simp [PathS.cells])
    simpa [PathS.cells] using this
  · have hv := HA.out
    simp only [lostTo, if_true] at hv
    subst hv
    go_enter Try.func37, Try.ntmps37
    go_wp2_with (go_at_call 47; refine (TW.out _).mono ?_; rintro e w' ⟨rfl, rfl⟩)
    go_end0
    rw [HQ.out]
    refine ⟨rfl, ?_, ((Fr.refl (· = b) w).setCell _ _ (.inl rfl)).setCell _ _ (.inl rfl)⟩
    have := (H.out.setCell0 (.int .i64 (p.loss + (65535 - p.loss) / 16)) (by simp [PathS.cells])).setCell 3 (.int .i64 (p.marks + 1)) (by simp [PathS.cells])
    simpa [PathS.cells] using this

theorem takeSeen_cases (s : SeenS) (n : Int) : ((takeSeen s n).2 = 0 → (if s.any = true then s.lost else 0) ≤ (takeSeen s n).1.lost) ∧ (s.any = false → (takeSeen s n).1.lost = 0 ∧ (takeSeen s n).2 = 0) := by
  unfold takeSeen
  split
  · rename_i h
    rw [h]
    simp
  · rename_i h
    have h' : s.any = true := by simpa using h
    rw [h']
    simp only [if_true]
    refine ⟨fun _ => ?_, fun h => by cases h⟩
    split
    · rename_i hp
      show s.lost ≤ s.lost + _ + _
      omega
    · split
      · exact Int.le_refl _
      · split <;> exact Int.le_refl _

set_option maxRecDepth 100000 in
set_option maxHeartbeats 1600000 in
theorem path_Heard (w : World) (b T o : Nat) (pre post : List Value) (p : PathS) (h : Seg w b T o pre p.cells post) (n : Int) (c0 : 0 ≤ p.came) (c1 : p.came ≤ 2305843009213693952) (t0 : 0 ≤ p.twice) (t1 : p.twice ≤ 2305843009213693952)
    (l0 : 0 ≤ p.lost) (l1 : p.lost ≤ 2305843009213693952) (s0 : 0 ≤ p.loss) (s1 : p.loss ≤ 65535) (m0 : 0 ≤ p.marks) (m1 : p.marks ≤ 2305843009213693952) :
    Calls Try.prog 25 #[.pointer (some ⟨b, o, none⟩), .int .u32 n] w fun e w' => e = .returned (.int .i64 (heardS p n).2) ∧ Seg w' b T o pre (heardS p n).1.cells post ∧ Fr (· = b) w w' := by
  have k5 : w.cell? ⟨b, o + 5, none⟩ = some (.bool p.any) := h.cell 5 (by rw [PathS.length_cells]; omega)
  have k10 : w.cell? ⟨b, o + 10, none⟩ = some (.int .i64 p.lost) := h.cell 10 (by rw [PathS.length_cells]; omega)
  have hseg : Seg w b T (o + 5) (pre ++ p.stats) p.seen.cells (p.tail ++ post) := by
    have h1 := h
    rw [PathS.parts] at h1
    exact h1.right.left
  have hpre := h.off
  have ST := Lib.hid (fun w (hs : Seg w b T (o + 5) (pre ++ p.stats) p.seen.cells (p.tail ++ post)) => seq_Take w b T (o + 5) _ _ p.seen hs n c0 (by show p.came ≤ _; omega) t0 (by show p.twice ≤ _; omega) l0 (by show p.lost ≤ _; omega))
  obtain ⟨tc1, tc2⟩ := takeSeen_cases p.seen n
  have tm : (takeSeen p.seen n).1.lost ≤ p.lost + 2147483712 := by
    have hb := behindS_bd n p.seen.top
    unfold takeSeen
    split
    · show 0 ≤ _; omega
    · split
      · show p.lost + (lostN p.bits _ : Nat) + _ ≤ _
        have := lostN_le p.bits (min (behindS n p.seen.top) 64).toNat
        omega
      · split
        · show p.lost ≤ _; omega
        · split <;> (show p.lost ≤ _; omega)
  unfold heardS
  generalize takeSeen p.seen n = t at *
  obtain ⟨sn, code⟩ := t
  simp only at ST tc1 tc2 tm ⊢
  obtain ⟨q, hq⟩ : ∃ q : PathS, q = { p.withSeen sn with quiet := 0, probe := 0, gap := 0 } := ⟨_, rfl⟩
  rw [← hq]
  obtain ⟨R, hR⟩ : ∃ R : PathS × Int, R = if code = 0 then ((q.markedN (if p.any = true then (min (sn.lost - p.lost) 64).toNat else 0)).marked false, 0) else (q, code) := ⟨_, rfl⟩
  rw [← hR]
  have HR := Lib.hid hR
  clear hR
  have HQ := Lib.hid hq
  have HS := Lib.hid hseg
  have TC1 := Lib.hid tc1; have TC2 := Lib.hid tc2
  clear h hq tc1 tc2 hseg
  go_enter Try.func25, Try.ntmps25
  go_upto_region 1 with fail
  refine wp_region_T (by kernel_rfl) (fun _ => True) (fun k => [0, 0, 0, 0, 1, 0, 0, 0, 0, 1, 0, 0].getD k 0) (by kernel_rfl) trivial ?_
  iterate 12 (refine wpT_step (fun K hK => ?_); go_simp; refine hK _ _ ?_; clear hK K)
  refine wpT_nil ?_
  have hs1 := HS.out.drew
  have hf1 := (Fr.refl (· = b) w).drew
  clear k5 k10 HS
  generalize w.drew = w1 at hs1 hf1 ⊢
  go_upto_region 3 with (go_at_call 36; refine (ST.out _ hs1).mono ?_; rintro e w2 ⟨rfl, hs2, hf2⟩)
  have hp2 : Seg w2 b T o pre (p.withSeen sn).cells post := by
    refine Seg.ofRight (xs := p.stats) hpre ?_
    exact Seg.ofLeft hs2
  have f11 : w2.frozen? ⟨b, o + 11, none⟩ = false := hp2.free _
  have f12 : w2.frozen? ⟨b, o + 12, none⟩ = false := hp2.free _
  have f13 : w2.frozen? ⟨b, o + 13, none⟩ = false := hp2.free _
  have k11 : w2.cell? ⟨b, o + 11, none⟩ = some (.int .i64 p.quiet) := hp2.cell 11 (by rw [PathS.length_cells]; omega)
  have k12 : w2.cell? ⟨b, o + 12, none⟩ = some (.int .i64 p.probe) := hp2.cell 12 (by rw [PathS.length_cells]; omega)
  have k13 : w2.cell? ⟨b, o + 13, none⟩ = some (.int .i64 p.gap) := hp2.cell 13 (by rw [PathS.length_cells]; omega)
  have HP2 := Lib.hid hp2
  have HF2 := Lib.hid (hf1.trans hf2)
  clear hs1 hf1 hs2 hp2 hf2 ST
  go_upto_region 4 with fail
  have hs3 := ((HP2.out.setCell 11 (.int .i64 0) (by simp [PathS.cells])).setCell 12 (.int .i64 0) (by simp [PathS.cells])).setCell 13 (.int .i64 0) (by simp [PathS.cells])
  have hf3 := ((HF2.out.setCell ⟨b, o + 11, none⟩ (.int .i64 0) (.inl rfl)).setCell ⟨b, o + 12, none⟩ (.int .i64 0) (.inl rfl)).setCell ⟨b, o + 13, none⟩ (.int .i64 0) (.inl rfl)
  generalize ((w2.setCell ⟨b, o + 11, none⟩ (.int .i64 0)).setCell ⟨b, o + 12, none⟩ (.int .i64 0)).setCell ⟨b, o + 13, none⟩ (.int .i64 0) = w3 at hs3 hf3 ⊢
  have hs3 : Seg w3 b T o pre q.cells post := by
    rw [HQ.out]
    simpa [PathS.cells, PathS.withSeen] using hs3
  clear f11 f12 f13 k11 k12 k13 HP2 HF2
  have qa : q.loss = p.loss ∧ q.marks = p.marks ∧ q.lost = sn.lost := by rw [HQ.out]; exact ⟨rfl, rfl, rfl⟩
  obtain ⟨qa1, qa2, qa3⟩ := qa
  have s0 : 0 ≤ q.loss := by rw [qa1]; exact s0
  have s1 : q.loss ≤ 65535 := by rw [qa1]; exact s1
  have m0 : 0 ≤ q.marks := by rw [qa2]; exact m0
  have m1 : q.marks ≤ 2305843009213693952 := by rw [qa2]; exact m1
  have q10 : w3.cell? ⟨b, o + 10, none⟩ = some (.int .i64 sn.lost) := by rw [← qa3]; exact hs3.cell 10 (by rw [PathS.length_cells]; omega)
  have HS3 := Lib.hid hs3; have HF3 := Lib.hid hf3
  clear qa1 qa2 qa3 hs3 hf3 HQ
  by_cases hc : code = 0
  case neg =>
    have hc' : (code != 0) = true := by simpa using hc
    have HC := Lib.hid hc
    clear hc
    go_wp2
    go_ret
    rw [HR.out, if_neg HC.out]
    exact ⟨rfl, HS3.out, HF3.out⟩
  case pos =>
    subst hc
    obtain ⟨K, hK⟩ : ∃ K : Nat, K = (if p.any = true then (min (sn.lost - p.lost) 64).toNat else 0) := ⟨_, rfl⟩
    have hsl : 0 ≤ sn.lost := by
      have := TC1.out rfl
      show 0 ≤ sn.lost
      cases ha : p.any
      · have h := (TC2.out ha).1; omega
      · rw [show p.seen.any = true from ha, if_pos rfl] at this
        have h2 : p.seen.lost ≤ sn.lost := this
        have h3 : p.seen.lost = p.lost := rfl
        omega
    have hmin : (sn.lost - p.lost < 64 ∧ (p.any = true → (K : Int) = sn.lost - p.lost) ∧ (p.any = false → sn.lost - p.lost ≤ 0 ∧ K = 0)) ∨ (sn.lost - p.lost = 64 ∧ K = 64 ∧ p.any = true) ∨ (64 < sn.lost - p.lost ∧ K = 64 ∧ p.any = true) := by
      cases ha : p.any
      · left
        have h := (TC2.out ha).1
        rw [ha] at hK
        simp only [Bool.false_eq_true, if_false] at hK
        refine ⟨by omega, (fun h => by cases h), (fun _ => ⟨by omega, hK⟩)⟩
      · have h1 := TC1.out rfl
        rw [show p.seen.any = true from ha, if_pos rfl] at h1
        have h2 : p.lost ≤ sn.lost := h1
        rw [ha, if_pos rfl] at hK
        rcases Int.lt_trichotomy (sn.lost - p.lost) 64 with h | h | h
        · left; exact ⟨h, (fun _ => by omega), (fun h => by cases h)⟩
        · right; left; exact ⟨h, by omega, rfl⟩
        · right; right; exact ⟨h, by omega, rfl⟩
    have hR := HR.out
    rw [if_pos rfl, ← hK] at hR
    have HRK := Lib.hid hR
    clear hK hR HR
    cases ha : p.any
    · -- the first one
      rw [ha] at hmin
      simp only [Bool.false_eq_true, and_false, or_false, false_implies, true_and, true_implies] at hmin
      obtain ⟨d1, d2, d3⟩ := hmin
      subst d3
      go_wp2_with fail
      refine wp_loop_rounds 2 ?_
      rw [rounds_succ]
      have MK := Lib.hid (stats_Mark w3 b T o pre post q HS3.out false s0 s1 m0 (by omega))
      go_wp2_with (go_at_call 37; refine MK.out.mono ?_; rintro e w4 ⟨rfl, hs4, hf4⟩)
      go_ret
      rw [HRK.out]
      exact ⟨rfl, hs4, HF3.out.trans hf4⟩
    · rw [ha] at hmin
      simp only [true_implies, Bool.true_eq_false, false_implies, and_true] at hmin
      have hkb : K ≤ 64 := by omega
      rcases hmin with ⟨d1, d2⟩ | ⟨d1, d2⟩ | ⟨d1, d2⟩
      all_goals
        have d3 : (K : Int) ≤ sn.lost - p.lost := by omega
        have d4 : sn.lost - p.lost < 64 → sn.lost - p.lost ≤ K := fun h => by omega
        have D2 := Lib.hid d2
        clear d2
        go_wp2_with fail
        go_loopw [43] (fun v wr => ∃ i : Nat, v = .int .i64 i ∧ i ≤ K ∧ Seg wr b T o pre (q.markedN i).cells post ∧ Fr (· = b) w wr) (fun v _ => K - (intOf v).toNat)
        case atStart => exact ⟨0, rfl, Nat.zero_le _, HS3.out, HF3.out⟩
        case round =>
          clear HS3 HF3
          obtain ⟨i, rfl, hi, hs, hf⟩ := hrel
          have D2o := D2.out
          obtain ⟨b1, b2⟩ := markedN_loss q i s0 s1
          have b3 := (markedN_kept q i).2.2.2.2.2.2.2.2
          have MKt := Lib.hid (stats_Mark wr b T o pre post (q.markedN i) hs true b1 b2 (by omega) (by omega))
          have MKf := Lib.hid (stats_Mark wr b T o pre post (q.markedN i) hs false b1 b2 (by omega) (by omega))
          have HF := Lib.hid hf
          clear hs hf b1 b2 b3
          by_cases hlt : i < K
          · have hlt' : (i : Int) < sn.lost - p.lost := by omega
            clear D2o
            go_wp2_with (go_at_call 37; refine MKt.out.mono ?_; rintro e w4 ⟨rfl, hs4, hf4⟩; have HS4 := Lib.hid hs4; have HF4 := Lib.hid (HF.out.trans hf4); clear hs4 hf4)
            go_roundw
            case rel => exact ⟨i + 1, by go_num, by omega, HS4.out, HF4.out⟩
            case measure => simp [intOf]; omega
          · obtain rfl : K = i := by omega
            have hge : sn.lost - p.lost ≤ K ∨ (64 : Int) ≤ K := by omega
            go_wp2_with (go_at_call 37; refine MKf.out.mono ?_; rintro e w4 ⟨rfl, hs4, hf4⟩; have HS4 := Lib.hid hs4; have HF4 := Lib.hid (HF.out.trans hf4); clear hs4 hf4)
            go_ret
            rw [HRK.out]
            exact ⟨rfl, HS4.out, HF4.out⟩

end Go.Proofs.Ytppnaeedangndaa
