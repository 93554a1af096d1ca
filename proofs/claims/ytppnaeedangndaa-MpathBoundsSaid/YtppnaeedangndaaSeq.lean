/- Walks over package seq: a number comes. -/
import Derived.Test.YtppnaeedangndaaNum
import Derived.Test.YtppnaeedangndaaLaws2
import Derived.Laws.BitsLemmas
import Derived.Deep.DeepCutAuto
namespace Go.Mm

/-- What came. -/
structure SeenS where
  any : Bool
  (top bits came twice lost : Int)

def SeenS.cells (s : SeenS) : List Value := [.bool s.any, .int .u32 s.top, .int .u64 s.bits, .int .i64 s.came, .int .i64 s.twice, .int .i64 s.lost]

theorem SeenS.length_cells (s : SeenS) : s.cells.length = 6 := rfl

/-- How far a is ahead of b, going round. -/
def behindS (a b : Int) : Int := (a - b + 2147483648) % 4294967296 - 2147483648

/-- Is the k-th bit not set? -/
def unset (x : Int) (k : Nat) : Bool := bits .and .u64 (x / 2 ^ k) 1 == 0

/-- How many of the g oldest marks of a word are not set. -/
def lostN (x : Int) : Nat → Nat
  | 0 => 0
  | i + 1 => lostN x i + if unset x (63 - i) = true then 1 else 0

theorem lostN_le (x : Int) (g : Nat) : lostN x g ≤ g := by
  induction g with
  | zero => exact Nat.le_refl _
  | succ g ih => unfold lostN; split <;> omega

/-- The newest number is so much greater. -/
def moveS (s : SeenS) (d : Int) : SeenS :=
  { s with lost := s.lost + lostN s.bits (min d 64).toNat + (d - min d 64), bits := if 64 ≤ d then 0 else IntKind.u64.wrap (s.bits * 2 ^ d.toNat) }

/-- A number comes. -/
def takeSeen (s : SeenS) (n : Int) : SeenS × Int :=
  if s.any = false then (⟨true, n, 1, 1, 0, 0⟩, 0)
  else if 0 < behindS n s.top then ({ moveS s (behindS n s.top) with top := n, bits := bits .or .u64 (moveS s (behindS n s.top)).bits 1, came := s.came + 1 }, 0)
  else if behindS n s.top ≤ -64 then (s, 90)
  else if (bits .and .u64 (s.bits / 2 ^ (-behindS n s.top).toNat) 1 == 1) = true then ({ s with twice := s.twice + 1 }, 171)
  else ({ s with bits := bits .or .u64 s.bits (IntKind.u64.wrap (2 ^ (-behindS n s.top).toNat)), came := s.came + 1 }, 0)

theorem behindS_bd (a b : Int) : -2147483648 ≤ behindS a b ∧ behindS a b ≤ 2147483647 := by unfold behindS; omega

end Go.Mm
namespace Go.Proofs.Ytppnaeedangndaa
open Go.RowKit Go.Mm Go.Rg

theorem word_Behind (a b : Int) (w : World) : Calls Try.prog 45 #[.int .u32 a, .int .u32 b] w fun e w' => e = .returned (.int .i64 (behindS a b)) ∧ w = w' := by
  go_enter Try.func45, Try.ntmps45
  go_wp2
  go_ret
  refine ⟨ret_int ?_, rfl⟩
  unfold behindS wrap64 wrap32
  omega

set_option maxRecDepth 100000 in
set_option maxHeartbeats 1600000 in
theorem seq_move (w : World) (b T o : Nat) (pre post : List Value) (s : SeenS) (h : Seg w b T o pre s.cells post) (by_ : Int) (h0 : 1 ≤ by_) (h1 : by_ ≤ 2147483648) (l0 : 0 ≤ s.lost) (l1 : s.lost ≤ 4611686018427387904) :
    Calls Try.prog 46 #[.pointer (some ⟨b, o, none⟩), .int .i64 by_] w fun e w' => e = .returned (.tuple #[]) ∧ Seg w' b T o pre (moveS s by_).cells post ∧ Fr (· = b) w w' := by
  have H := Lib.hid h
  clear h
  have hc : (∃ g : Nat, g < 64 ∧ by_ = (g : Int)) ∨ by_ = 64 ∨ 64 < by_ := by
    by_cases c : by_ < 64
    · exact .inl ⟨by_.toNat, by omega, by omega⟩
    · omega
  rcases hc with ⟨g, hg, rfl⟩ | rfl | hg
  · go_enter Try.func46, Try.ntmps46
    go_wp2_with fail
    go_loopw [9] (fun v wr => ∃ i : Nat, v = .int .i64 i ∧ i ≤ g ∧ Seg wr b T o pre ({ s with lost := s.lost + lostN s.bits i } : SeenS).cells post ∧ Fr (· = b) w wr) (fun v _ => g - (intOf v).toNat)
    case atStart => exact ⟨0, rfl, by omega, by simpa [lostN] using H.out, Fr.refl _ _⟩
    case round =>
      clear H
      obtain ⟨i, rfl, hi, hs, hf⟩ := hrel
      have k2 : wr.cell? ⟨b, o + 2, none⟩ = some (.int .u64 s.bits) := hs.cell 2 (by rw [SeenS.length_cells]; omega)
      obtain ⟨n, hn⟩ : ∃ n, n = lostN s.bits i := ⟨_, rfl⟩
      have hle := lostN_le s.bits i
      rw [← hn] at hs hle
      have k5 : wr.cell? ⟨b, o + 5, none⟩ = some (.int .i64 (s.lost + n)) := hs.cell 5 (by rw [SeenS.length_cells]; omega)
      have f5 : wr.frozen? ⟨b, o + 5, none⟩ = false := hs.free _
      have HS := Lib.hid hs; have HF := Lib.hid hf; have HNN := Lib.hid hn
      have HN : Hid (lostN s.bits (i + 1) = n + if unset s.bits (63 - i) = true then 1 else 0) := Lib.hid (by rw [hn]; rfl)
      clear hn hs hf
      by_cases hlt : i < g
      · cases hu : unset s.bits (63 - i)
        · have hu2 : (bits BinOp.and IntKind.u64 (s.bits / 2 ^ (63 - i)) 1 == 0) = false := hu
          have HU := Lib.hid hu
          clear hu
          go_wp2
          go_roundw
          case rel => exact ⟨i + 1, by go_num, by omega, by rw [HN.out, HU.out]; simpa using HS.out, HF.out⟩
          case measure => simp [intOf]; omega
        · have hu2 : (bits BinOp.and IntKind.u64 (s.bits / 2 ^ (63 - i)) 1 == 0) = true := hu
          have HU := Lib.hid hu
          clear hu
          go_wp2
          go_roundw
          case rel => exact ⟨i + 1, by go_num, by omega, by rw [HN.out, HU.out]; have := HS.out.setCell 5 (.int .i64 (s.lost + n + 1)) (by rw [SeenS.length_cells]; omega); simpa [SeenS.cells, Int.add_assoc] using this, HF.out.setCell _ _ (.inl rfl)⟩
          case measure => simp [intOf]; omega
      · obtain rfl : g = i := by omega
        have f2 : wr.frozen? ⟨b, o + 2, none⟩ = false := HS.out.free _
        go_wp2
        go_end0
        have e : moveS s (g : Int) = { s with lost := s.lost + n + 0, bits := IntKind.u64.wrap (s.bits * 2 ^ g) } := by
          unfold moveS
          rw [HNN.out, show min (g : Int) 64 = g by omega, Int.sub_self, if_neg (by omega)]
          rfl
        rw [e]
        exact ⟨rfl, by have := (HS.out.setCell 5 (.int .i64 (s.lost + n)) (by rw [SeenS.length_cells]; omega)).setCell 2 (.int .u64 (IntKind.u64.wrap (s.bits * 2 ^ g))) (by rw [List.length_set, SeenS.length_cells]; omega); simpa [SeenS.cells] using this, (HF.out.setCell _ _ (.inl rfl)).setCell _ _ (.inl rfl)⟩
  · go_enter Try.func46, Try.ntmps46
    go_wp2_with fail
    go_loopw [9] (fun v wr => ∃ i : Nat, v = .int .i64 i ∧ i ≤ 64 ∧ Seg wr b T o pre ({ s with lost := s.lost + lostN s.bits i } : SeenS).cells post ∧ Fr (· = b) w wr) (fun v _ => 64 - (intOf v).toNat)
    case atStart => exact ⟨0, rfl, by omega, by simpa [lostN] using H.out, Fr.refl _ _⟩
    case round =>
      clear H
      obtain ⟨i, rfl, hi, hs, hf⟩ := hrel
      have k2 : wr.cell? ⟨b, o + 2, none⟩ = some (.int .u64 s.bits) := hs.cell 2 (by rw [SeenS.length_cells]; omega)
      obtain ⟨n, hn⟩ : ∃ n, n = lostN s.bits i := ⟨_, rfl⟩
      have hle := lostN_le s.bits i
      rw [← hn] at hs hle
      have k5 : wr.cell? ⟨b, o + 5, none⟩ = some (.int .i64 (s.lost + n)) := hs.cell 5 (by rw [SeenS.length_cells]; omega)
      have f5 : wr.frozen? ⟨b, o + 5, none⟩ = false := hs.free _
      have HS := Lib.hid hs; have HF := Lib.hid hf; have HNN := Lib.hid hn
      have HN : Hid (lostN s.bits (i + 1) = n + if unset s.bits (63 - i) = true then 1 else 0) := Lib.hid (by rw [hn]; rfl)
      clear hn hs hf
      by_cases hlt : i < 64
      · cases hu : unset s.bits (63 - i)
        · have hu2 : (bits BinOp.and IntKind.u64 (s.bits / 2 ^ (63 - i)) 1 == 0) = false := hu
          have HU := Lib.hid hu
          clear hu
          go_wp2
          go_roundw
          case rel => exact ⟨i + 1, by go_num, by omega, by rw [HN.out, HU.out]; simpa using HS.out, HF.out⟩
          case measure => simp [intOf]; omega
        · have hu2 : (bits BinOp.and IntKind.u64 (s.bits / 2 ^ (63 - i)) 1 == 0) = true := hu
          have HU := Lib.hid hu
          clear hu
          go_wp2
          go_roundw
          case rel => exact ⟨i + 1, by go_num, by omega, by rw [HN.out, HU.out]; have := HS.out.setCell 5 (.int .i64 (s.lost + n + 1)) (by rw [SeenS.length_cells]; omega); simpa [SeenS.cells, Int.add_assoc] using this, HF.out.setCell _ _ (.inl rfl)⟩
          case measure => simp [intOf]; omega
      · obtain rfl : i = 64 := by omega
        have f2 : wr.frozen? ⟨b, o + 2, none⟩ = false := HS.out.free _
        go_wp2
        refine bodyPost_ret (v := .tuple #[]) (by simp [results, Try.results46, go_sem]) rfl ?_
        have e : moveS s 64 = { s with lost := s.lost + n + 0, bits := 0 } := by
          unfold moveS
          rw [HNN.out]
          rfl
        rw [e]
        exact ⟨rfl, by have := (HS.out.setCell 5 (.int .i64 (s.lost + n)) (by rw [SeenS.length_cells]; omega)).setCell 2 (.int .u64 (0)) (by rw [List.length_set, SeenS.length_cells]; omega); simpa [SeenS.cells] using this, (HF.out.setCell _ _ (.inl rfl)).setCell _ _ (.inl rfl)⟩
  · go_enter Try.func46, Try.ntmps46
    go_wp2_with fail
    go_loopw [9] (fun v wr => ∃ i : Nat, v = .int .i64 i ∧ i ≤ 64 ∧ Seg wr b T o pre ({ s with lost := s.lost + lostN s.bits i } : SeenS).cells post ∧ Fr (· = b) w wr) (fun v _ => 64 - (intOf v).toNat)
    case atStart => exact ⟨0, rfl, by omega, by simpa [lostN] using H.out, Fr.refl _ _⟩
    case round =>
      clear H
      obtain ⟨i, rfl, hi, hs, hf⟩ := hrel
      have k2 : wr.cell? ⟨b, o + 2, none⟩ = some (.int .u64 s.bits) := hs.cell 2 (by rw [SeenS.length_cells]; omega)
      obtain ⟨n, hn⟩ : ∃ n, n = lostN s.bits i := ⟨_, rfl⟩
      have hle := lostN_le s.bits i
      rw [← hn] at hs hle
      have k5 : wr.cell? ⟨b, o + 5, none⟩ = some (.int .i64 (s.lost + n)) := hs.cell 5 (by rw [SeenS.length_cells]; omega)
      have f5 : wr.frozen? ⟨b, o + 5, none⟩ = false := hs.free _
      have HS := Lib.hid hs; have HF := Lib.hid hf; have HNN := Lib.hid hn
      have HN : Hid (lostN s.bits (i + 1) = n + if unset s.bits (63 - i) = true then 1 else 0) := Lib.hid (by rw [hn]; rfl)
      clear hn hs hf
      by_cases hlt : i < 64
      · cases hu : unset s.bits (63 - i)
        · have hu2 : (bits BinOp.and IntKind.u64 (s.bits / 2 ^ (63 - i)) 1 == 0) = false := hu
          have HU := Lib.hid hu
          clear hu
          go_wp2
          go_roundw
          case rel => exact ⟨i + 1, by go_num, by omega, by rw [HN.out, HU.out]; simpa using HS.out, HF.out⟩
          case measure => simp [intOf]; omega
        · have hu2 : (bits BinOp.and IntKind.u64 (s.bits / 2 ^ (63 - i)) 1 == 0) = true := hu
          have HU := Lib.hid hu
          clear hu
          go_wp2
          go_roundw
          case rel => exact ⟨i + 1, by go_num, by omega, by rw [HN.out, HU.out]; have := HS.out.setCell 5 (.int .i64 (s.lost + n + 1)) (by rw [SeenS.length_cells]; omega); simpa [SeenS.cells, Int.add_assoc] using this, HF.out.setCell _ _ (.inl rfl)⟩
          case measure => simp [intOf]; omega
      · obtain rfl : i = 64 := by omega
        have f2 : wr.frozen? ⟨b, o + 2, none⟩ = false := HS.out.free _
        go_wp2
        refine bodyPost_ret (v := .tuple #[]) (by simp [results, Try.results46, go_sem]) rfl ?_
        have e : moveS s by_ = { s with lost := s.lost + n + (by_ - 64), bits := 0 } := by
          unfold moveS
          rw [HNN.out, show min by_ 64 = 64 by omega, if_pos (by omega)]
          rfl
        rw [e]
        exact ⟨rfl, by have := (HS.out.setCell 5 (.int .i64 (s.lost + n + (by_ - 64))) (by rw [SeenS.length_cells]; omega)).setCell 2 (.int .u64 (0)) (by rw [List.length_set, SeenS.length_cells]; omega); simpa [SeenS.cells] using this, (HF.out.setCell _ _ (.inl rfl)).setCell _ _ (.inl rfl)⟩

set_option maxRecDepth 100000 in
set_option maxHeartbeats 1600000 in
theorem seq_Take (w : World) (b T o : Nat) (pre post : List Value) (s : SeenS) (h : Seg w b T o pre s.cells post) (n : Int) (c0 : 0 ≤ s.came) (c1 : s.came ≤ 4611686018427387904) (t0 : 0 ≤ s.twice) (t1 : s.twice ≤ 4611686018427387904)
    (l0 : 0 ≤ s.lost) (l1 : s.lost ≤ 4611686018427387904) :
    Calls Try.prog 36 #[.pointer (some ⟨b, o, none⟩), .int .u32 n] w fun e w' => e = .returned (.int .i64 (takeSeen s n).2) ∧ Seg w' b T o pre (takeSeen s n).1.cells post ∧ Fr (· = b) w w' := by
  have k0 : w.cell? ⟨b, o, none⟩ = some (.bool s.any) := h.cell0 (by rw [SeenS.length_cells]; omega)
  have k1 : w.cell? ⟨b, o + 1, none⟩ = some (.int .u32 s.top) := h.cell 1 (by rw [SeenS.length_cells]; omega)
  have k2 : w.cell? ⟨b, o + 2, none⟩ = some (.int .u64 s.bits) := h.cell 2 (by rw [SeenS.length_cells]; omega)
  have k3 : w.cell? ⟨b, o + 3, none⟩ = some (.int .i64 s.came) := h.cell 3 (by rw [SeenS.length_cells]; omega)
  have k4 : w.cell? ⟨b, o + 4, none⟩ = some (.int .i64 s.twice) := h.cell 4 (by rw [SeenS.length_cells]; omega)
  have k5 : w.cell? ⟨b, o + 5, none⟩ = some (.int .i64 s.lost) := h.cell 5 (by rw [SeenS.length_cells]; omega)
  have f0 : w.frozen? ⟨b, o, none⟩ = false := h.free _
  have f1 : w.frozen? ⟨b, o + 1, none⟩ = false := h.free _
  have f2 : w.frozen? ⟨b, o + 2, none⟩ = false := h.free _
  have f3 : w.frozen? ⟨b, o + 3, none⟩ = false := h.free _
  have f4 : w.frozen? ⟨b, o + 4, none⟩ = false := h.free _
  have f5 : w.frozen? ⟨b, o + 5, none⟩ = false := h.free _
  obtain ⟨d, hd⟩ : ∃ d, d = behindS n s.top := ⟨_, rfl⟩
  obtain ⟨d0, d1⟩ := behindS_bd n s.top
  have BD := fun w => word_Behind n s.top w
  unfold takeSeen
  rw [← hd] at BD d0 d1 ⊢
  have HBD := Lib.hid BD
  have H := Lib.hid h
  clear BD h hd
  cases ha : s.any
  · rw [ha] at k0
    have HA := Lib.hid ha
    clear ha
    go_enter Try.func36, Try.ntmps36
    go_wp2
    go_ret
    refine ⟨rfl, ?_, ((((((Fr.refl (· = b) w).setCell _ _ (.inl rfl)).setCell _ _ (.inl rfl)).setCell _ _ (.inl rfl)).setCell _ _ (.inl rfl)).setCell _ _ (.inl rfl)).setCell _ _ (.inl rfl)⟩
    have := (((((H.out.setCell0 (.bool true) (by simp [SeenS.cells])).setCell 1 (.int .u32 n) (by simp [SeenS.cells])).setCell 2 (.int .u64 1) (by simp [SeenS.cells])).setCell 3 (.int .i64 1) (by simp [SeenS.cells])).setCell 4 (.int .i64 0) (by simp [SeenS.cells])).setCell 5 (.int .i64 0) (by simp [SeenS.cells])
    simpa [SeenS.cells] using this
  · rw [ha] at k0
    have HA := Lib.hid ha
    clear ha
    simp only [Bool.true_eq_false, if_false]
    by_cases hp : 0 < d
    · rw [if_pos hp]
      have MV := Lib.hid (seq_move w b T o pre post s H.out d (by omega) (by omega) l0 l1)
      have em : (moveS s d).came = s.came := rfl
      obtain ⟨q, hq⟩ : ∃ q, q = moveS s d := ⟨_, rfl⟩
      rw [← hq] at em MV ⊢
      have EM := Lib.hid em
      clear em hq
      go_enter Try.func36, Try.ntmps36
      go_wp2_with first
        | (go_at_call 45; refine (HBD.out _).mono ?_; rintro e w' ⟨rfl, rfl⟩)
        | (go_at_call 46; refine MV.out.mono ?_; rintro e w1 ⟨rfl, hs1, hf1⟩
           have k2 : w1.cell? ⟨b, o + 2, none⟩ = some (.int .u64 q.bits) := hs1.cell 2 (by rw [SeenS.length_cells]; omega)
           have k3 : w1.cell? ⟨b, o + 3, none⟩ = some (.int .i64 s.came) := by rw [← EM.out]; exact hs1.cell 3 (by rw [SeenS.length_cells]; omega)
           have k1 : w1.cell? ⟨b, o + 1, none⟩ = some (.int .u32 q.top) := hs1.cell 1 (by rw [SeenS.length_cells]; omega)
           have f1 : w1.frozen? ⟨b, o + 1, none⟩ = false := hs1.free _
           have f2 : w1.frozen? ⟨b, o + 2, none⟩ = false := hs1.free _
           have f3 : w1.frozen? ⟨b, o + 3, none⟩ = false := hs1.free _
           have HS1 := Lib.hid hs1; have HF1 := Lib.hid hf1
           clear hs1 hf1)
      go_ret
      refine ⟨rfl, ?_, ((HF1.out.setCell _ _ (.inl rfl)).setCell _ _ (.inl rfl)).setCell _ _ (.inl rfl)⟩
      have := ((HS1.out.setCell 1 (.int .u32 n) (by simp [SeenS.cells])).setCell 2 (.int .u64 (bits .or .u64 q.bits 1)) (by simp [SeenS.cells])).setCell 3 (.int .i64 (s.came + 1)) (by simp [SeenS.cells])
      simpa [SeenS.cells] using this
    · rw [if_neg hp]
      have hp' : d ≤ 0 := by omega
      clear hp
      by_cases hq : d ≤ -64
      · rw [if_pos hq]
        go_enter Try.func36, Try.ntmps36
        go_wp2_with (go_at_call 45; refine (HBD.out _).mono ?_; rintro e w' ⟨rfl, rfl⟩)
        go_ret
        exact ⟨rfl, H.out, Fr.refl _ _⟩
      · rw [if_neg hq]
        obtain ⟨j, rfl⟩ : ∃ j : Nat, d = -(j : Int) := ⟨(-d).toNat, by omega⟩
        rw [show (-(-(j : Int))).toNat = j by omega]
        have hj : j < 64 := by omega
        clear hq hp'
        cases hu : (bits .and .u64 (s.bits / 2 ^ j) 1 == 1)
        · go_enter Try.func36, Try.ntmps36
          go_upto_region 16 with (go_at_call 45; refine (HBD.out _).mono ?_; rintro e w' ⟨rfl, rfl⟩)
          refine wp_region_T (by kernel_rfl) (fun _ => True) (fun k => [0, 0, 0, 1, 0, 0, 0, 0, 0, 0, 2].getD k 0) (by kernel_rfl) trivial ?_
          have j0 : (0 : Int) ≤ (j : Int) := by omega
          have hwj : IntKind.i64.wrap (j : Int) = (j : Int) := IntWalk.i64_in _ ⟨by omega, by omega⟩
          iterate 10 (refine wpT_step (fun K hK => ?_); go_simp; refine hK _ _ ?_; clear hK K)
          refine wpT_loud rfl rfl ?_
          go_simp
          refine wpT_nil ?_
          have hs1 := ((H.out.setCell 2 (.int .u64 (bits .or .u64 s.bits (IntKind.u64.wrap (2 ^ j)))) (by simp [SeenS.cells])).drew)
          have hf1 := ((Fr.refl (· = b) w).setCell ⟨b, o + 2, none⟩ (.int .u64 (bits .or .u64 s.bits (IntKind.u64.wrap (2 ^ j)))) (.inl rfl)).drew
          clear k0 k1 k2 k3 k4 k5 f0 f1 f2 f3 f4 f5
          generalize (w.setCell ⟨b, o + 2, none⟩ (.int .u64 (bits .or .u64 s.bits (IntKind.u64.wrap (2 ^ j))))).drew = W1 at hs1 hf1 ⊢
          have k3 : W1.cell? ⟨b, o + 3, none⟩ = some (.int .i64 s.came) := hs1.cell 3 (by simp [SeenS.cells])
          have f3 : W1.frozen? ⟨b, o + 3, none⟩ = false := hs1.free _
          have HS1 := Lib.hid hs1; have HF1 := Lib.hid hf1
          clear hs1 hf1
          go_wp2
          go_ret
          refine ⟨rfl, ?_, HF1.out.setCell _ _ (.inl rfl)⟩
          have := HS1.out.setCell 3 (.int .i64 (s.came + 1)) (by simp [SeenS.cells])
          have hA := HA.out
          simpa [SeenS.cells, hA] using this
        · go_enter Try.func36, Try.ntmps36
          go_wp2_with (go_at_call 45; refine (HBD.out _).mono ?_; rintro e w' ⟨rfl, rfl⟩)
          go_ret
          refine ⟨rfl, ?_, (Fr.refl (· = b) w).setCell _ _ (.inl rfl)⟩
          have := H.out.setCell 4 (.int .i64 (s.twice + 1)) (by simp [SeenS.cells])
          have hA := HA.out
          simpa [SeenS.cells, hA] using this

end Go.Proofs.Ytppnaeedangndaa
