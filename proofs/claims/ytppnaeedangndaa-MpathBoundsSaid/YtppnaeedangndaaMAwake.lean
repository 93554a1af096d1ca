/- The page's example of layer 15. -/
import Derived.Test.YtppnaeedangndaaFlush
import Derived.Test.YtppnaeedangndaaMOrd
namespace Go.Proofs.Ytppnaeedangndaa
open Go.RowKit Go.Mm Go.Rg

theorem Hot.new {B : Nat} {w w1 w2 : World} (h : Fr (fun _ => False) w w1) (hB : w.heap.size ≤ B) (k : Fr (Hot B w1) w1 w2) : Fr (fun _ => False) w w2 :=
  h.then k (fun b hb e => by have := e.2; omega)

theorem ways_usual (s : SendS) (k : BuckS) (x : It) (h : x.rank = 2) : (waysS s k x).length = 1 := by
  have e : chooseS s x.rank = [firstP s.p0 s.p1] := by
    unfold chooseS
    rw [if_neg]
    unfold manyS
    rw [h]
    simp
  unfold waysS
  rw [e]
  simp

/-- Three of 33 bytes wait, and there are 66: two go. -/
theorem flush_three (s : SendS) (k : BuckS) (L : List It) (hl : L.length = 3) (h : ∀ x ∈ L, x.rank = 2 ∧ x.d.dl = 0) (hk : k.held = 66) : (flushS s k L).out.length = 2 ∧ (flushS s k L).L.length = 1 := by
  have step : ∀ f : FlS, 0 < f.L.length → (∀ x ∈ f.L, x.rank = 2 ∧ x.d.dl = 0) → goes f = mayB f.k 33 ∧ (∀ x ∈ (sent f).L, x.rank = 2 ∧ x.d.dl = 0) ∧ (sent f).L.length = f.L.length - 1 ∧ (sent f).out.length = f.out.length + 1 ∧ (sent f).k = takeB f.k 33 := by
    intro f h0 hf
    have hx := hf _ (Hp.nth_mem f.L 0 h0)
    have hw := ways_usual f.s f.k (Hp.nth f.L 0) hx.1
    have hc : costS (Hp.nth f.L 0) (waysS f.s f.k (Hp.nth f.L 0)).length = 33 := by rw [hw]; unfold costS; rw [hx.2]; rfl
    refine ⟨by unfold goes; rw [hc], fun y hy => hf y (Go.Mm.take_mem f.L h0 y hy), Go.Mm.take_len f.L h0, ?_, ?_⟩
    · show (sendAll _ _ _ _).2.length = _
      rw [(sendAll_kept _ _ _ _).2.2.2.2.2.2, hw]
    · show takeB f.k (costS _ _) = _
      rw [hc]
  have hm : ∀ b : BuckS, mayB b 33 = decide (33 ≤ b.held) := by intro b; unfold mayB; simp
  have ht : ∀ b : BuckS, 33 ≤ b.held → (takeB b 33).held = b.held - 33 := by
    intro b hb
    unfold takeB
    rw [hm, if_pos (by simpa using hb)]
  unfold flushS
  rw [hl]
  obtain ⟨a1, a2, a3, a4, a5⟩ := step ⟨s, k, [], L⟩ (by show 0 < L.length; omega) h
  rw [flushR_go _ _ (by show 0 < L.length; omega) (by rw [a1, hm]; show decide (33 ≤ k.held) = true; rw [hk]; rfl)]
  generalize sent ⟨s, k, [], L⟩ = f at *
  have b0 : 0 < f.L.length := by rw [a3]; show 0 < L.length - 1; omega
  have hk1 : f.k.held = 33 := by rw [a5, ht k (by omega)]; omega
  obtain ⟨c1, c2, c3, c4, c5⟩ := step f b0 a2
  rw [flushR_go _ _ b0 (by rw [c1, hm, hk1]; rfl)]
  generalize sent f = g at *
  have d0 : 0 < g.L.length := by rw [c3, a3]; show 0 < L.length - 1 - 1; omega
  have hk2 : g.k.held = 0 := by rw [c5, ht f.k (by omega)]; omega
  obtain ⟨e1, _⟩ := step g d0 c2
  rw [flushR_held _ _ d0 (by rw [e1, hm, hk2]; rfl)]
  refine ⟨?_, ?_⟩
  · show g.out.length = 2
    rw [c4, a4]; rfl
  · show g.L.length = 1
    rw [c3, a3]
    show L.length - 1 - 1 = 1
    omega

theorem big0 : (0 : Int) ≤ 0 ∧ (0 : Int) ≤ 4611686018427387904 := by decide

theorem check_keep (n : Int) : checkS ⟨7, n, 0, 0, 0, 0, 0, 0, 0, 0, none, 0, 0⟩ [] = 0 := by simp [checkS, formS]

theorem data_none (w : World) (a : Option Addr) : DataAt w a 0 [] := ⟨rfl, fun i hi => by omega, fun h => by omega⟩

/-- A push that finds room. -/
theorem mpath_Push_ok (w : World) (bs : Nat) (s : SendS) (k : BuckS) (room turns : Int) (L : List It) {B : Nat} (h : IsS B w bs s k room turns L) (hm : L.length ≤ 256) (hr : (L.length : Int) < room) (ht : 0 ≤ turns ∧ turns ≤ 4611686018427387904)
    (hdr : 0 ≤ s.dropped ∧ s.dropped ≤ 4611686018427387904) (rank : Int) (d : DG) (l : List Int) (hd : DataAt w d.da d.dl l) (hc : checkS { d with session := s.session, path := 0 } l = 0) :
    Calls Try.prog 7 #[.pointer (some ⟨bs, 0, none⟩), .int .i64 rank, .agg d.cells.toArray] w fun e w' =>
      e = .returned (.int .i64 0) ∧ (∃ g cap cs, Blk w' g 5 (bytesV l ++ cs) ∧ IsS B w' bs s k room (turns + 1) (Hp.push ahead L ⟨rank, turns + 1, { d with session := s.session, path := 0, da := some ⟨g, 0, none⟩, dc := cap }⟩)) ∧ Fr (Hot B w) w w' := by
  refine (mpath_Push w bs s k room turns L h hm ht hdr rank d l hd).mono ?_
  rintro e w' ⟨he, _, hp, hf⟩
  rw [hc] at he
  obtain ⟨g, cap, cs, hb, hs⟩ := hp hc
  unfold dropS pushL at hs
  rw [if_pos hr, if_pos hr] at hs
  exact ⟨he, ⟨g, cap, cs, hb, hs⟩, hf⟩

set_option maxRecDepth 100000 in
set_option maxHeartbeats 1600000 in
theorem law15_awake (w : World) : Calls Try.prog 5 #[] w fun e w' => e = .returned (.bool true) ∧ Fr (fun _ => False) w w' := by
  go_enter Try.func5, Try.ntmps5
  go_upto_region 4 with (go_at_call 6; refine (mpath_New 7 10 66 9 w (by decide) (by decide) (by decide) (by decide) (by decide) (by decide)).mono ?_; rintro e w1 ⟨bs, bk, qu, rfl, hs1, hf1⟩)
  have H1 : Hid (∃ L : List It, IsS w.heap.size w1 bs ⟨zPath, zPath, bk, qu, 7, 0, 0, 0⟩ ⟨10, 66, 66, 0, 0⟩ 9 (0 : Nat) L ∧ L.length = 0 ∧ (∀ x ∈ L, x.rank = 2 ∧ x.d.dl = 0) ∧ Fr (fun _ => False) w w1) := Lib.hid ⟨[], hs1, rfl, by simp, hf1⟩
  clear hs1 hf1
  go_wp2_with fail
  go_loopw [3] (fun v wr => ∃ i : Nat, v = .int .i64 i ∧ i ≤ 3 ∧ ∃ L : List It, IsS w.heap.size wr bs ⟨zPath, zPath, bk, qu, 7, 0, 0, 0⟩ ⟨10, 66, 66, 0, 0⟩ 9 i L ∧ L.length = i ∧ (∀ x ∈ L, x.rank = 2 ∧ x.d.dl = 0) ∧ Fr (fun _ => False) w wr) (fun v _ => 3 - (intOf v).toNat)
  case atStart => exact ⟨0, rfl, by omega, H1.out⟩
  case round =>
    clear H1
    obtain ⟨i, rfl, hi, L, hs, hl, hx, hf⟩ := hrel
    by_cases hi3 : i < 3
    · have PP := Lib.hid (mpath_Push_ok wr bs _ _ 9 i L hs (by omega) (by omega) (by omega) big0 2 ⟨7, 0, 0, 0, 0, 0, 0, 0, 0, 0, none, 0, 0⟩ [] (data_none _ _) (check_keep 7))
      have HF := Lib.hid hf; have HX := Lib.hid hx; have HL := Lib.hid hl
      clear hf hx hl hs
      go_wp2_with (go_at_call 7; refine PP.out.mono ?_; rintro e w2 ⟨rfl, hp, hf2⟩; have HP := Lib.hid hp; have HF2 := Lib.hid hf2; clear hp hf2)
      go_roundw
      case rel =>
        obtain ⟨g, cap, cs, hb, hs2⟩ := HP.out
        refine ⟨i + 1, by go_num, by omega, _, hs2, ?_, ?_, Hot.new HF.out (Nat.le_refl _) HF2.out⟩
        · rw [(Hp.push_perm ahead L _).length_eq]; simp [HL.out]
        · intro y hy
          rcases List.mem_cons.1 ((Hp.push_perm ahead L _).subset hy) with e | hy
          · subst e; exact ⟨rfl, rfl⟩
          · exact HX.out y hy
      case measure => simp [intOf]; omega
    · obtain rfl : i = 3 := by omega
      have PF := Lib.hid (mpath_Flush wr bs _ _ 9 3 L hs (by omega) (fun x h => by rw [(hx x h).2]; omega) big0)
      obtain ⟨h2, h3⟩ := flush_three ⟨zPath, zPath, bk, qu, 7, 0, 0, 0⟩ ⟨10, 66, 66, 0, 0⟩ L hl hx rfl
      have HF := Lib.hid hf
      have h2 := Lib.hid h2; have h3 := Lib.hid h3
      clear hs hf hx hl
      go_wp2_with (first
        | (go_at_call 8; refine PF.out.mono ?_; rintro e w2 ⟨v, rfl, hv, hs2, hf2⟩
           rw [h2.out] at hv
           obtain ⟨g, cap, sp, rfl, _⟩ := owns_blk (owns_zero hv) (by decide)
           have HS2 := Lib.hid hs2; have HF2 := Lib.hid hf2
           clear hv hs2 hf2)
        | (go_at_call 13; refine (mpath_Waiting w2 bs _ _ _ _ _ HS2.out).mono ?_; rintro e w3 ⟨rfl, rfl⟩; rw [h3.out]))
      go_ret
      exact ⟨rfl, Hot.new HF.out (Nat.le_refl _) HF2.out⟩

end Go.Proofs.Ytppnaeedangndaa
