/- Walks over package path: how a way is, a tick, its number. -/
import Derived.Test.YtppnaeedangndaaPath
import Derived.Deep.Cut
namespace Go.Proofs.Ytppnaeedangndaa
open Go.RowKit Go.Mm Go.Rg

def stateOf (quiet : Int) : Int := if 60 ≤ quiet then 2 else if 20 ≤ quiet then 1 else 0

set_option maxHeartbeats 400000 in
theorem path_State (w : World) (b T o : Nat) (pre post : List Value) (p : PathS) (h : Seg w b T o pre p.cells post) :
    Calls Try.prog 32 #[.pointer (some ⟨b, o, none⟩)] w fun e w' => e = .returned (.int .i64 (stateOf p.quiet)) ∧ w = w' := by
  have h11 : w.cell? ⟨b, o + 11, none⟩ = some (.int .i64 p.quiet) := h.cell 11 (by simp [PathS.cells])
  by_cases h0 : 60 ≤ p.quiet
  · have e : stateOf p.quiet = 2 := by unfold stateOf; rw [if_pos h0]
    rw [e]; clear e
    go_enter Try.func32, Try.ntmps32
    go_wp2
    go_ret
    exact ⟨rfl, rfl⟩
  · by_cases h1 : 20 ≤ p.quiet
    · have e : stateOf p.quiet = 1 := by unfold stateOf; rw [if_neg h0, if_pos h1]
      rw [e]; clear e
      go_enter Try.func32, Try.ntmps32
      go_wp2
      go_ret
      exact ⟨rfl, rfl⟩
    · have e : stateOf p.quiet = 0 := by unfold stateOf; rw [if_neg h0, if_neg h1]
      rw [e]; clear e
      go_enter Try.func32, Try.ntmps32
      go_wp2
      go_ret
      exact ⟨rfl, rfl⟩

def tick1 (p : PathS) : PathS := { p with quiet := if p.quiet < 1073741824 then p.quiet + 1 else p.quiet }
def tick2 (p : PathS) : PathS := if p.gap = 0 then { p with gap := 5, probe := 1 } else p
def tick3 (p : PathS) : PathS × Bool :=
  if p.probe - 1 > 0 then ({ p with probe := p.probe - 1 }, false) else ({ p with probe := p.gap, gap := if 80 < 2 * p.gap then 80 else 2 * p.gap }, true)
def tickS (p : PathS) : PathS × Bool :=
  if stateOf (tick1 p).quiet = 0 then ({ tick1 p with probe := 0, gap := 0 }, false) else tick3 (tick2 (tick1 p))

set_option maxRecDepth 100000 in
set_option maxHeartbeats 1600000 in
theorem path_Tick (w : World) (b T o : Nat) (pre post : List Value) (p : PathS) (h : Seg w b T o pre p.cells post) (hp : p.Ok) :
    Calls Try.prog 24 #[.pointer (some ⟨b, o, none⟩)] w fun e w' => e = .returned (.bool (tickS p).2) ∧ Seg w' b T o pre (tickS p).1.cells post ∧ Fr (· = b) w w' := by
  have h11 : w.cell? ⟨b, o + 11, none⟩ = some (.int .i64 p.quiet) := h.cell 11 (by simp [PathS.cells])
  have h12 : w.cell? ⟨b, o + 12, none⟩ = some (.int .i64 p.probe) := h.cell 12 (by simp [PathS.cells])
  have h13 : w.cell? ⟨b, o + 13, none⟩ = some (.int .i64 p.gap) := h.cell 13 (by simp [PathS.cells])
  have f11 : w.frozen? ⟨b, o + 11, none⟩ = false := h.free _
  have f12 : w.frozen? ⟨b, o + 12, none⟩ = false := h.free _
  have f13 : w.frozen? ⟨b, o + 13, none⟩ = false := h.free _
  obtain ⟨_, _, q0, q1, r0, r1, g0, g1⟩ := hp
  have hst : ∃ W, (p.quiet < 1073741824 ∧ W = w.setCell ⟨b, o + 11, none⟩ (.int .i64 (p.quiet + 1)) ∨ ¬ p.quiet < 1073741824 ∧ W = w) := by
    by_cases c1 : p.quiet < 1073741824
    · exact ⟨_, .inl ⟨c1, rfl⟩⟩
    · exact ⟨_, .inr ⟨c1, rfl⟩⟩
  obtain ⟨p1, hp1⟩ : ∃ p1, p1 = tick1 p := ⟨_, rfl⟩
  have eg : p1.gap = p.gap := by rw [hp1]; rfl
  have er : p1.probe = p.probe := by rw [hp1]; rfl
  have four : (p.quiet < 1073741824 ∧ p.quiet + 1 < 20) ∨ (p.quiet < 1073741824 ∧ 20 ≤ p.quiet + 1 ∧ p.quiet + 1 < 60) ∨ (p.quiet < 1073741824 ∧ 60 ≤ p.quiet + 1) ∨ 1073741824 ≤ p.quiet := by omega
  have HP1 := Lib.hid hp1
  have HEG := Lib.hid eg; have HER := Lib.hid er
  clear hst eg er
  rcases four with ⟨c1, c2⟩ | ⟨c1, c2, c3⟩ | ⟨c1, c2⟩ | c1
  case inl =>
    have e : tickS p = ({ p with quiet := p.quiet + 1, probe := 0, gap := 0 }, false) := by
      unfold tickS tick1
      simp only [if_pos c1]
      rw [if_pos (by unfold stateOf; rw [if_neg (by omega), if_neg (by omega)])]
    rw [e]
    have H := Lib.hid h; clear h e hp1
    go_enter Try.func24, Try.ntmps24
    go_wp2
    go_ret
    exact ⟨rfl, ((H.out.setCell 11 _ (by simp [PathS.cells])).setCell 12 _ (by simp [PathS.cells])).setCell 13 _ (by simp [PathS.cells]), (((Fr.refl (· = b) w).setCell _ _ (.inl rfl)).setCell _ _ (.inl rfl)).setCell _ _ (.inl rfl)⟩
  case' inr.inl =>
    have e : tickS p = tick3 (tick2 p1) := by
      rw [hp1]
      unfold tickS
      rw [if_neg (by unfold tick1 stateOf; simp only [if_pos c1]; rw [if_neg (by omega), if_pos (by omega)]; omega)]
    have e1 : p1 = { p with quiet := p.quiet + 1 } := by rw [hp1]; unfold tick1; simp only [if_pos c1]
    have hs : Seg (w.setCell ⟨b, o + 11, none⟩ (.int .i64 (p.quiet + 1))) b T o pre p1.cells post := by rw [e1]; exact h.setCell 11 _ (by simp [PathS.cells])
    have hf : Fr (· = b) w (w.setCell ⟨b, o + 11, none⟩ (.int .i64 (p.quiet + 1))) := (Fr.refl (· = b) w).setCell _ _ (.inl rfl)
    have hsv : stateOf p1.quiet = 1 := by rw [e1]; simp only; unfold stateOf; rw [if_neg (by omega), if_pos (by omega)]
    rw [e]
    clear e e1 hp1 h
    have HS := Lib.hid hs; clear hs
    go_enter Try.func24, Try.ntmps24
    have HSV := Lib.hid hsv; clear hsv
    go_upto_region 6 with (go_at_call 32; refine (path_State _ b T o pre post p1 HS.out).mono ?_; rintro e w' ⟨rfl, rfl⟩; rw [HSV.out])
    have hs := HS.out; clear HS
    generalize w.setCell ⟨b, o + 11, none⟩ (.int .i64 (p.quiet + 1)) = W at hs hf ⊢
  case' inr.inr.inl =>
    have e : tickS p = tick3 (tick2 p1) := by
      rw [hp1]
      unfold tickS
      rw [if_neg (by unfold tick1 stateOf; simp only [if_pos c1]; rw [if_pos (by omega)]; omega)]
    have e1 : p1 = { p with quiet := p.quiet + 1 } := by rw [hp1]; unfold tick1; simp only [if_pos c1]
    have hs : Seg (w.setCell ⟨b, o + 11, none⟩ (.int .i64 (p.quiet + 1))) b T o pre p1.cells post := by rw [e1]; exact h.setCell 11 _ (by simp [PathS.cells])
    have hf : Fr (· = b) w (w.setCell ⟨b, o + 11, none⟩ (.int .i64 (p.quiet + 1))) := (Fr.refl (· = b) w).setCell _ _ (.inl rfl)
    have hsv : stateOf p1.quiet = 2 := by rw [e1]; simp only; unfold stateOf; rw [if_pos (by omega)]
    rw [e]
    clear e e1 hp1 h
    have HS := Lib.hid hs; clear hs
    go_enter Try.func24, Try.ntmps24
    have HSV := Lib.hid hsv; clear hsv
    go_upto_region 6 with (go_at_call 32; refine (path_State _ b T o pre post p1 HS.out).mono ?_; rintro e w' ⟨rfl, rfl⟩; rw [HSV.out])
    have hs := HS.out; clear HS
    generalize w.setCell ⟨b, o + 11, none⟩ (.int .i64 (p.quiet + 1)) = W at hs hf ⊢
  case' inr.inr.inr =>
    have e : tickS p = tick3 (tick2 p1) := by
      rw [hp1]
      unfold tickS
      rw [if_neg (by unfold tick1 stateOf; simp only [if_neg (show ¬ p.quiet < 1073741824 by omega)]; rw [if_pos (by omega)]; omega)]
    have e1 : p1 = p := by rw [hp1]; unfold tick1; simp only [if_neg (show ¬ p.quiet < 1073741824 by omega)]
    have hs : Seg w b T o pre p1.cells post := by rw [e1]; exact h
    have hf : Fr (· = b) w w := Fr.refl _ _
    have c2 : (60 : Int) ≤ p.quiet := by omega
    have hsv : stateOf p1.quiet = 2 := by rw [e1]; unfold stateOf; rw [if_pos (by omega)]
    rw [e]
    clear e e1 hp1 h
    have HS := Lib.hid hs; clear hs
    go_enter Try.func24, Try.ntmps24
    have HSV := Lib.hid hsv; clear hsv
    go_upto_region 6 with (go_at_call 32; refine (path_State _ b T o pre post p1 HS.out).mono ?_; rintro e w' ⟨rfl, rfl⟩; rw [HSV.out])
    have hs := HS.out; clear HS
    obtain ⟨W, hW⟩ : ∃ W, W = w := ⟨_, rfl⟩
    rw [← hW] at hs ⊢
    have hf : Fr (· = b) w W := by rw [hW]; exact Fr.refl _ _
    clear hW
  all_goals
    clear h11 h12 h13 f11 f12 f13
    have h12 : W.cell? ⟨b, o + 12, none⟩ = some (.int .i64 p1.probe) := hs.cell 12 (by simp [PathS.cells])
    have h13 : W.cell? ⟨b, o + 13, none⟩ = some (.int .i64 p1.gap) := hs.cell 13 (by simp [PathS.cells])
    have f12 : W.frozen? ⟨b, o + 12, none⟩ = false := hs.free _
    have f13 : W.frozen? ⟨b, o + 13, none⟩ = false := hs.free _
    have r0' : 0 ≤ p1.probe := by have := HER.out; omega
    have r1' : p1.probe ≤ 80 := by have := HER.out; omega
    have g0' : 0 ≤ p1.gap := by have := HEG.out; omega
    have g1' : p1.gap ≤ 80 := by have := HEG.out; omega
    clear r0 r1 g0 g1 HEG HER HP1 q0 q1
    by_cases c4 : p1.gap = 0
    · have e2 : tick2 p1 = { p1 with gap := 5, probe := 1 } := by unfold tick2; rw [if_pos c4]
      have hs2 : Seg ((W.setCell ⟨b, o + 13, none⟩ (.int .i64 5)).setCell ⟨b, o + 12, none⟩ (.int .i64 1)) b T o pre (tick2 p1).cells post := by
        rw [e2]; exact (hs.setCell 13 (.int .i64 5) (by simp [PathS.cells])).setCell 12 (.int .i64 1) (by simp [PathS.cells])
      have hf2 : Fr (· = b) w ((W.setCell ⟨b, o + 13, none⟩ (.int .i64 5)).setCell ⟨b, o + 12, none⟩ (.int .i64 1)) := (hf.setCell _ _ (.inl rfl)).setCell _ _ (.inl rfl)
      have e3 : tick3 (tick2 p1) = ({ tick2 p1 with probe := 5, gap := 10 }, true) := by rw [e2]; rfl
      have d4 : (p1.gap == 0) = true := by simpa using c4
      clear c4
      have HS2 := Lib.hid hs2; have HE2 := Lib.hid e2; have HE3 := Lib.hid e3
      clear hs hs2 e2 e3 hf
      go_upto_region 8 with fail
      have hs2 := HS2.out; clear HS2
      generalize (W.setCell ⟨b, o + 13, none⟩ (.int .i64 5)).setCell ⟨b, o + 12, none⟩ (.int .i64 1) = W2 at hs2 hf2 ⊢
      rw [HE2.out] at hs2
      clear h12 h13 f12 f13 d4
      have h12 : W2.cell? ⟨b, o + 12, none⟩ = some (.int .i64 1) := hs2.cell 12 (by simp [PathS.cells])
      have h13 : W2.cell? ⟨b, o + 13, none⟩ = some (.int .i64 5) := hs2.cell 13 (by simp [PathS.cells])
      have f12 : W2.frozen? ⟨b, o + 12, none⟩ = false := hs2.free _
      have f13 : W2.frozen? ⟨b, o + 13, none⟩ = false := hs2.free _
      have HS2 := Lib.hid hs2; clear hs2
      go_wp2
      go_ret
      rw [HE3.out, HE2.out]
      exact ⟨rfl, ((HS2.out.setCell 12 (.int .i64 0) (by simp [PathS.cells])).setCell 12 (.int .i64 5) (by simp [PathS.cells])).setCell 13 (.int .i64 10) (by simp [PathS.cells]), ((hf2.setCell _ _ (.inl rfl)).setCell _ _ (.inl rfl)).setCell _ _ (.inl rfl)⟩
    · have e2 : tick2 p1 = p1 := by unfold tick2; rw [if_neg c4]
      have HE2 := Lib.hid e2
      have d4 : (p1.gap == 0) = false := by simpa using c4
      clear c4
      have HS := Lib.hid hs; clear hs e2
      by_cases c5 : p1.probe - 1 > 0
      · have e3 : tick3 p1 = ({ p1 with probe := p1.probe - 1 }, false) := by unfold tick3; rw [if_pos c5]
        have d5 : (1 : Int) < p1.probe := by omega
        have HE3 := Lib.hid e3
        clear c5 e3
        go_wp2
        go_ret
        rw [HE2.out, HE3.out]
        exact ⟨rfl, HS.out.setCell 12 _ (by simp [PathS.cells]), hf.setCell _ _ (.inl rfl)⟩
      · have d5 : p1.probe ≤ 1 := by omega
        by_cases c6 : 80 < 2 * p1.gap
        · have e3 : tick3 p1 = ({ p1 with probe := p1.gap, gap := 80 }, true) := by unfold tick3; rw [if_neg c5, if_pos c6]
          have HE3 := Lib.hid e3
          clear c5 e3
          go_wp2
          go_ret
          rw [HE2.out, HE3.out]
          exact ⟨rfl, ((HS.out.setCell 12 (.int .i64 (p1.probe - 1)) (by simp [PathS.cells])).setCell 12 (.int .i64 p1.gap) (by simp [PathS.cells])).setCell 13 (.int .i64 80) (by simp [PathS.cells]), ((hf.setCell _ _ (.inl rfl)).setCell _ _ (.inl rfl)).setCell _ _ (.inl rfl)⟩
        · have e3 : tick3 p1 = ({ p1 with probe := p1.gap, gap := 2 * p1.gap }, true) := by unfold tick3; rw [if_neg c5, if_neg c6]
          have HE3 := Lib.hid e3
          have d6 : 2 * p1.gap ≤ 80 := by omega
          clear c5 c6 e3
          go_wp2
          go_ret
          rw [HE2.out, HE3.out]
          exact ⟨rfl, ((HS.out.setCell 12 (.int .i64 (p1.probe - 1)) (by simp [PathS.cells])).setCell 12 (.int .i64 p1.gap) (by simp [PathS.cells])).setCell 13 (.int .i64 (2 * p1.gap)) (by simp [PathS.cells]), ((hf.setCell _ _ (.inl rfl)).setCell _ _ (.inl rfl)).setCell _ _ (.inl rfl)⟩

set_option maxHeartbeats 400000 in
theorem path_Number (w : World) (b T o : Nat) (pre post : List Value) (p : PathS) (h : Seg w b T o pre p.cells post) :
    Calls Try.prog 34 #[.pointer (some ⟨b, o, none⟩)] w fun e w' => e = .returned (.int .u32 p.next) ∧ Seg w' b T o pre ({ p with next := IntKind.u32.wrap (p.next + 1) } : PathS).cells post ∧ Fr (· = b) w w' := by
  have h11 : w.cell? ⟨b, o + 14, none⟩ = some (.int .u32 p.next) := h.cell 14 (by simp [PathS.cells])
  have f11 : w.frozen? ⟨b, o + 14, none⟩ = false := h.free _
  have H := Lib.hid h; clear h
  go_enter Try.func34, Try.ntmps34
  go_wp2
  go_ret
  exact ⟨rfl, H.out.setCell 14 _ (by simp [PathS.cells]), (Fr.refl _ _).setCell _ _ (.inl rfl)⟩

theorem tickS_ok (p : PathS) (h : p.Ok) : (tickS p).1.Ok := by
  obtain ⟨a, b, q0, q1, r0, r1, g0, g1⟩ := h
  have hq : 0 ≤ (tick1 p).quiet ∧ (tick1 p).quiet ≤ 1073741824 := by
    unfold tick1
    simp only
    split <;> omega
  unfold tickS
  split
  · exact ⟨a, b, hq.1, hq.2, by simp only; omega, by simp only; omega, by simp only; omega, by simp only; omega⟩
  · unfold tick3 tick2
    by_cases c4 : (tick1 p).gap = 0
    · rw [if_pos c4]
      simp only
      rw [if_neg (by omega)]
      exact ⟨a, b, hq.1, hq.2, by simp only; omega, by simp only; omega, by simp only; omega, by simp only; omega⟩
    · rw [if_neg c4]
      have e1 : (tick1 p).gap = p.gap := rfl
      have e2 : (tick1 p).probe = p.probe := rfl
      split
      · exact ⟨a, b, hq.1, hq.2, by simp only; omega, by simp only; omega, by simp only; omega, by simp only; omega⟩
      · refine ⟨a, b, hq.1, hq.2, by simp only; omega, by simp only; omega, ?_, ?_⟩ <;> (simp only; split <;> omega)

end Go.Proofs.Ytppnaeedangndaa
