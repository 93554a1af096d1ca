/- Walks over package pacer: a bucket fills and is emptied. -/
import Derived.Test.YtppnaeedangndaaNum
import Derived.Test.YtppnaeedangndaaLaws2
import Derived.Deep.Cut
namespace Go.Mm

structure BuckS where
  (rate burst held spent full : Int)

def BuckS.cells (b : BuckS) : List Value := [.int .i64 b.rate, .int .i64 b.burst, .int .i64 b.held, .int .i64 b.spent, .int .i64 b.full]

structure BuckS.Ok (b : BuckS) : Prop where
  rate0 : 1 ≤ b.rate
  rate1 : b.rate ≤ 1048576
  burst0 : 1 ≤ b.burst
  burst1 : b.burst ≤ 16777216
  held0 : 0 ≤ b.held
  held1 : b.held ≤ b.burst
  spent0 : 0 ≤ b.spent
  spent1 : b.spent ≤ 9223372036854775807
  full0 : 0 ≤ b.full
  full1 : b.full ≤ 9223372036854775807

/-- A sum that stays at the top. -/
def satS (a b : Int) : Int := if 9223372036854775807 - b < a then 9223372036854775807 else a + b

def mayB (b : BuckS) (n : Int) : Bool := decide (0 ≤ n) && decide (n ≤ b.held)
def takeB (b : BuckS) (n : Int) : BuckS := if mayB b n = true then { b with held := b.held - n, spent := satS b.spent n } else b
def tickB (b : BuckS) : BuckS := { b with held := b.held + min b.rate (b.burst - b.held), full := satS b.full (max 0 (b.rate - (b.burst - b.held))) }

theorem satS_bounds (a b : Int) (ha : 0 ≤ a) (hb : 0 ≤ b) (ha1 : a ≤ 9223372036854775807) : 0 ≤ satS a b ∧ satS a b ≤ 9223372036854775807 := by
  unfold satS; split <;> omega

theorem takeB_ok (b : BuckS) (n : Int) (h : b.Ok) : (takeB b n).Ok := by
  unfold takeB
  split
  · rename_i c
    simp only [mayB, Bool.and_eq_true, decide_eq_true_eq] at c
    obtain ⟨a1, a2, a3, a4, a5, a6, a7, a8, a9, a10⟩ := h
    have := satS_bounds b.spent n a7 c.1 a8
    exact ⟨a1, a2, a3, a4, by show 0 ≤ b.held - n; omega, by show b.held - n ≤ b.burst; omega, this.1, this.2, a9, a10⟩
  · exact h

theorem tickB_ok (b : BuckS) (h : b.Ok) : (tickB b).Ok := by
  unfold tickB
  obtain ⟨a1, a2, a3, a4, a5, a6, a7, a8, a9, a10⟩ := h
  have := satS_bounds b.full (max 0 (b.rate - (b.burst - b.held))) a9 (by omega) a10
  exact ⟨a1, a2, a3, a4, by show 0 ≤ b.held + min b.rate (b.burst - b.held); omega, by show b.held + min b.rate (b.burst - b.held) ≤ b.burst; omega, a7, a8, this.1, this.2⟩

end Go.Mm
namespace Go.Proofs.Ytppnaeedangndaa
open Go.RowKit Go.Mm Go.Rg

set_option maxHeartbeats 400000 in
theorem word_Add_nn (a b : Int) (w : World) (ha : 0 ≤ a) (ha1 : a ≤ 9223372036854775807) (hb : 0 ≤ b) (hb1 : b ≤ 9223372036854775807) :
    Calls Try.prog 33 #[.int .i64 a, .int .i64 b] w fun e w' => e = .returned (.int .i64 (satS a b)) ∧ w = w' := by
  by_cases h : a + b ≤ 9223372036854775807
  · have e : satS a b = a + b := by unfold satS; rw [if_neg (by omega)]
    rw [e]
    exact word_Add_pos a b w hb (by omega) h hb1
  · have e : satS a b = 9223372036854775807 := by unfold satS; rw [if_pos (by omega)]
    rw [e]
    have h1 : 9223372036854775807 - b < a := by omega
    have h0 : 0 < b := by omega
    clear h e
    go_enter Try.func33, Try.ntmps33
    go_wp2
    go_ret
    exact ⟨rfl, rfl⟩

theorem pacer_New (rate burst : Int) (w : World) (h0 : 1 ≤ rate) (h1 : rate ≤ 1048576) (h2 : 1 ≤ burst) (h3 : burst ≤ 16777216) :
    Calls Try.prog 14 #[.int .i64 rate, .int .i64 burst] w fun e w' => e = .returned (.tuple #[.pointer (some ⟨w.heap.size, 0, none⟩), .int .i64 0]) ∧ Blk w' w.heap.size 76 (⟨rate, burst, burst, 0, 0⟩ : BuckS).cells ∧ Fr (fun _ => False) w w' := by
  go_enter Try.func14, Try.ntmps14
  go_wp2
  go_ret2
  exact ⟨rfl, Blk.new w _ _, (Fr.refl _ w).alloc _⟩

theorem pacer_May (w : World) (b T : Nat) (s : BuckS) (h : Blk w b T s.cells) (n : Int) :
    Calls Try.prog 19 #[.pointer (some ⟨b, 0, none⟩), .int .i64 n] w fun e w' => e = .returned (.bool (mayB s n)) ∧ w = w' := by
  have h2 : w.cell? ⟨b, 2, none⟩ = some (.int .i64 s.held) := h.cell 2
  by_cases c1 : 0 ≤ n
  · have e : mayB s n = decide (n ≤ s.held) := by simp [mayB, c1]
    rw [e]
    clear e
    go_enter Try.func19, Try.ntmps19
    go_wp2
    go_ret
    exact ⟨rfl, rfl⟩
  · have e : mayB s n = false := by simp [mayB, c1]
    rw [e]
    have c2 : n < 0 := by omega
    clear e c1
    go_enter Try.func19, Try.ntmps19
    go_wp2
    go_ret
    exact ⟨rfl, rfl⟩

theorem pacer_Take (w : World) (b T : Nat) (s : BuckS) (h : Blk w b T s.cells) (k : s.Ok) (n : Int) :
    Calls Try.prog 20 #[.pointer (some ⟨b, 0, none⟩), .int .i64 n] w fun e w' => e = .returned (.bool (mayB s n)) ∧ Blk w' b T (takeB s n).cells ∧ Fr (· = b) w w' := by
  obtain ⟨a1, a2, a3, a4, a5, a6, a7, a8, a9, a10⟩ := k
  have h2 : w.cell? ⟨b, 2, none⟩ = some (.int .i64 s.held) := h.cell 2
  have h3 : w.cell? ⟨b, 3, none⟩ = some (.int .i64 s.spent) := h.cell 3
  have f2 : w.frozen? ⟨b, 2, none⟩ = false := h.free _
  have f3 : w.frozen? ⟨b, 3, none⟩ = false := h.free _
  have M := Lib.hid (pacer_May w b T s h n)
  have H := Lib.hid h
  clear h
  by_cases c : mayB s n = true
  · have e : takeB s n = { s with held := s.held - n, spent := satS s.spent n } := by unfold takeB; rw [if_pos c]
    rw [e]
    clear e
    simp only [mayB, Bool.and_eq_true, decide_eq_true_eq] at c
    obtain ⟨c1, c2⟩ := c
    have e : mayB s n = true := by simp [mayB, c1, c2]
    rw [e] at M ⊢
    go_enter Try.func20, Try.ntmps20
    go_wp2_with first
      | (go_at_call 19; refine M.out.mono ?_; rintro e w' ⟨rfl, rfl⟩)
      | (go_at_call 33; refine (word_Add_nn s.spent n _ a7 a8 c1 (by omega)).mono ?_; rintro e w' ⟨rfl, rfl⟩)
    go_ret
    exact ⟨rfl, (H.out.setCell 2 _).setCell 3 _, ((Fr.refl (· = b) w).setCell _ _ (.inl rfl)).setCell _ _ (.inl rfl)⟩
  · have c' : mayB s n = false := by simpa using c
    have e : takeB s n = s := by unfold takeB; rw [if_neg c]
    rw [e]
    rw [c'] at M ⊢
    clear c c' e
    go_enter Try.func20, Try.ntmps20
    go_wp2_with (go_at_call 19; refine M.out.mono ?_; rintro e w' ⟨rfl, rfl⟩)
    go_ret
    exact ⟨rfl, H.out, Fr.refl _ w⟩

set_option maxRecDepth 100000 in
set_option maxHeartbeats 400000 in
theorem pacer_Tick (w : World) (b T : Nat) (s : BuckS) (h : Blk w b T s.cells) (k : s.Ok) :
    Calls Try.prog 23 #[.pointer (some ⟨b, 0, none⟩), .int .i64 1] w fun e w' => e = .returned (.tuple #[]) ∧ Blk w' b T (tickB s).cells ∧ Fr (· = b) w w' := by
  obtain ⟨a1, a2, a3, a4, a5, a6, a7, a8, a9, a10⟩ := k
  have h0 : w.cell? ⟨b, 0, none⟩ = some (.int .i64 s.rate) := h.cell 0
  have h1 : w.cell? ⟨b, 1, none⟩ = some (.int .i64 s.burst) := h.cell 1
  have h2 : w.cell? ⟨b, 2, none⟩ = some (.int .i64 s.held) := h.cell 2
  have h4 : w.cell? ⟨b, 4, none⟩ = some (.int .i64 s.full) := h.cell 4
  have f2 : w.frozen? ⟨b, 2, none⟩ = false := h.free _
  have f4 : w.frozen? ⟨b, 4, none⟩ = false := h.free _
  have H := Lib.hid h
  clear h
  unfold tickB
  obtain ⟨mn, hmn⟩ : ∃ m, m = min s.rate (s.burst - s.held) := ⟨_, rfl⟩
  obtain ⟨mx, hmx⟩ : ∃ m, m = max 0 (s.rate - (s.burst - s.held)) := ⟨_, rfl⟩
  rw [← hmn, ← hmx]
  have HMN := Lib.hid hmn; have HMX := Lib.hid hmx
  have m0 : 0 ≤ mn := by omega
  have m1 : mn ≤ 1048576 := by omega
  have x0 : 0 ≤ mx := by omega
  have x1 : mx ≤ 1048576 := by omega
  have e1 : s.rate * 1 = s.rate := by omega
  have hwr : IntKind.i64.wrap (s.burst - s.held) = s.burst - s.held := IntWalk.i64_in _ ⟨by omega, by omega⟩
  clear hmn hmx
  go_enter Try.func23, Try.ntmps23
  go_upto_region 1 with (go_at_call 35; refine (word_Mul_small s.rate 1 _ a1 (by omega) (by omega) (by omega) (by omega) (by omega)).mono ?_; rintro e w' ⟨rfl, rfl⟩; rw [e1])
  refine wp_region_T (by kernel_rfl) (fun _ => True) (fun k => [0, 0, 0, 1, 0, 0, 0, 1, 0, 0].getD k 0) (by kernel_rfl) trivial ?_
  iterate 10 (refine wpT_step (fun K hK => ?_); go_simp; refine hK _ _ ?_; clear hK K)
  refine wpT_nil ?_
  have h2 : w.drew.cell? ⟨b, 2, none⟩ = some (.int .i64 s.held) := h2
  have h4 : w.drew.cell? ⟨b, 4, none⟩ = some (.int .i64 s.full) := h4
  have f2 : w.drew.frozen? ⟨b, 2, none⟩ = false := f2
  have f4 : w.drew.frozen? ⟨b, 4, none⟩ = false := f4
  have hb : Blk w.drew b T s.cells := H.out.drew
  have hf : Fr (· = b) w w.drew := (Fr.refl _ w).drew
  clear H hwr h0 h1
  have H := Lib.hid hb
  clear hb
  generalize w.drew = W at *
  by_cases c : s.rate ≤ s.burst - s.held
  · have d1 : mn = s.rate := by have := HMN.out; omega
    have d2 : mx = 0 := by have := HMX.out; omega
    subst d1 d2
    go_wp2_with (go_at_call 33; refine (word_Add_nn s.full 0 _ a9 a10 (by omega) (by omega)).mono ?_; rintro e w' ⟨rfl, rfl⟩)
    go_end0
    exact ⟨rfl, (H.out.setCell 2 _).setCell 4 _, (hf.setCell _ _ (.inl rfl)).setCell _ _ (.inl rfl)⟩
  · have d1 : mn = s.burst - s.held := by have := HMN.out; omega
    have d2 : mx = s.rate - (s.burst - s.held) := by have := HMX.out; omega
    have c' : s.burst - s.held < s.rate := by omega
    clear c
    subst d1 d2
    go_wp2_with (go_at_call 33; refine (word_Add_nn s.full (s.rate - (s.burst - s.held)) _ a9 a10 (by omega) (by omega)).mono ?_; rintro e w' ⟨rfl, rfl⟩)
    go_end0
    exact ⟨rfl, (H.out.setCell 2 _).setCell 4 _, (hf.setCell _ _ (.inl rfl)).setCell _ _ (.inl rfl)⟩

end Go.Proofs.Ytppnaeedangndaa
