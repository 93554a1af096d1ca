/- A datagram came: a sender hears of it. -/
import Derived.Test.YtppnaeedangndaaHeard
import Derived.Test.YtppnaeedangndaaTick
namespace Go.Mm

/-- A way's counts, behind so many calls. -/
structure PathS.Cnt (k : Nat) (p : PathS) : Prop where
  came0 : 0 ≤ p.came
  came1 : p.came ≤ k
  twice0 : 0 ≤ p.twice
  twice1 : p.twice ≤ k
  lost0 : 0 ≤ p.lost
  lost1 : p.lost ≤ 2147483712 * (k : Int)
  loss0 : 0 ≤ p.loss
  loss1 : p.loss ≤ 65535
  marks0 : 0 ≤ p.marks
  marks1 : p.marks ≤ 65 * (k : Int)

theorem PathS.Cnt.mono {k m : Nat} {p : PathS} (h : p.Cnt k) (hm : k ≤ m) : p.Cnt m := by
  obtain ⟨a, b, c, d, e, f, g, i, j, l⟩ := h
  exact ⟨a, by omega, c, by omega, e, by omega, g, i, j, by omega⟩

theorem takeSeen_bd (s : SeenS) (n : Int) (l0 : 0 ≤ s.lost) (c0 : 0 ≤ s.came) (t0 : 0 ≤ s.twice) : 0 ≤ (takeSeen s n).1.came ∧ (takeSeen s n).1.came ≤ s.came + 1 ∧ 0 ≤ (takeSeen s n).1.twice ∧ (takeSeen s n).1.twice ≤ s.twice + 1 ∧ 0 ≤ (takeSeen s n).1.lost ∧ (takeSeen s n).1.lost ≤ s.lost + 2147483712 := by
  have hb := behindS_bd n s.top
  unfold takeSeen
  split
  · refine ⟨?_, ?_, ?_, ?_, ?_, ?_⟩ <;> simp only <;> omega
  · split
    · have := lostN_le s.bits (min (behindS n s.top) 64).toNat
      refine ⟨?_, ?_, ?_, ?_, ?_, ?_⟩ <;> simp only [moveS] <;> omega
    · split
      · refine ⟨?_, ?_, ?_, ?_, ?_, ?_⟩ <;> simp only <;> omega
      · split <;> (refine ⟨?_, ?_, ?_, ?_, ?_, ?_⟩ <;> simp only <;> omega)

theorem heardS_next (p : PathS) (n : Int) : (heardS p n).1.next = p.next ∧ (heardS p n).1.rtt = p.rtt ∧ (heardS p n).1.quiet = 0 ∧ (heardS p n).1.probe = 0 ∧ (heardS p n).1.gap = 0 := by
  unfold heardS
  simp only
  split
  · obtain ⟨h1, h2, h3, h4, h5, h6, h7, h8, h9⟩ := markedN_kept { p.withSeen (takeSeen p.seen n).1 with quiet := 0, probe := 0, gap := 0 } (if p.any = true then (min ((takeSeen p.seen n).1.lost - p.lost) 64).toNat else 0)
    exact ⟨h8, h2, h5, h6, h7⟩
  · exact ⟨rfl, rfl, rfl, rfl, rfl⟩

theorem heardS_ok (p : PathS) (n : Int) (h : p.Ok) : (heardS p n).1.Ok := by
  obtain ⟨h1, h2, h3, h4, h5⟩ := heardS_next p n
  constructor
  · rw [h2]; exact h.rtt0
  · rw [h2]; exact h.rtt1
  · rw [h3]; decide
  · rw [h3]; decide
  · rw [h4]; decide
  · rw [h4]; decide
  · rw [h5]; decide
  · rw [h5]; decide

theorem heardS_cnt (p : PathS) (n : Int) (k : Nat) (h : p.Cnt k) : (heardS p n).1.Cnt (k + 1) := by
  obtain ⟨a, b, c, d, e, f, g, i, j, l⟩ := h
  obtain ⟨t1, t2, t3, t4, t5, t6⟩ := takeSeen_bd p.seen n e a c
  have u2 : (takeSeen p.seen n).1.came ≤ p.came + 1 := t2
  have u4 : (takeSeen p.seen n).1.twice ≤ p.twice + 1 := t4
  have u6 : (takeSeen p.seen n).1.lost ≤ p.lost + 2147483712 := t6
  unfold heardS
  simp only
  generalize takeSeen p.seen n = t at *
  split
  · obtain ⟨K, hK, hk⟩ : ∃ K : Nat, (if p.any = true then (min (t.1.lost - p.lost) 64).toNat else 0) = K ∧ K ≤ 64 := ⟨_, rfl, by split <;> omega⟩
    rw [hK]
    obtain ⟨q, hq⟩ : ∃ q : PathS, q = { p.withSeen t.1 with quiet := 0, probe := 0, gap := 0 } := ⟨_, rfl⟩
    rw [← hq]
    have e1 : q.loss = p.loss ∧ q.marks = p.marks ∧ q.seen = t.1 := by rw [hq]; exact ⟨rfl, rfl, rfl⟩
    obtain ⟨m1, _, _, _, _, _, _, _, m9⟩ := markedN_kept q K
    obtain ⟨l1, l2⟩ := markedN_loss q K (by rw [e1.1]; exact g) (by rw [e1.1]; exact i)
    have hs : (q.markedN K).seen = t.1 := m1.trans e1.2.2
    have s1 : (q.markedN K).came = t.1.came := congrArg SeenS.came hs
    have s2 : (q.markedN K).twice = t.1.twice := congrArg SeenS.twice hs
    have s3 : (q.markedN K).lost = t.1.lost := congrArg SeenS.lost hs
    have m9 : (q.markedN K).marks = p.marks + K := by rw [m9, e1.2.1]
    have l3 := markL_bd (q.markedN K).loss 0 l1 l2 (by decide) (by decide)
    refine ⟨?_, ?_, ?_, ?_, ?_, ?_, l3.1, l3.2, ?_, ?_⟩
    · show 0 ≤ (q.markedN K).came; omega
    · show (q.markedN K).came ≤ _; omega
    · show 0 ≤ (q.markedN K).twice; omega
    · show (q.markedN K).twice ≤ _; omega
    · show 0 ≤ (q.markedN K).lost; omega
    · show (q.markedN K).lost ≤ _; omega
    · show 0 ≤ (q.markedN K).marks + 1; omega
    · show (q.markedN K).marks + 1 ≤ _; omega
  · refine ⟨?_, ?_, ?_, ?_, ?_, ?_, g, i, j, ?_⟩
    · show 0 ≤ t.1.came; omega
    · show t.1.came ≤ _; omega
    · show 0 ≤ t.1.twice; omega
    · show t.1.twice ≤ _; omega
    · show 0 ≤ t.1.lost; omega
    · show t.1.lost ≤ _; omega
    · show p.marks ≤ _; omega

end Go.Mm
namespace Go.Proofs.Ytppnaeedangndaa
open Go.RowKit Go.Mm Go.Rg

theorem mpath_Heard_no (w : World) (a : Option Addr) (i n : Int) (h : i < 0 ∨ 2 ≤ i) :
    Calls Try.prog 10 #[.pointer a, .int .i64 i, .int .u32 n] w fun e w' => e = .returned (.int .i64 62) ∧ w = w' := by
  rcases h with h | h
  · go_enter Try.func10, Try.ntmps10
    go_wp2
    go_ret
    exact ⟨rfl, rfl⟩
  · have h0 : ¬ i < 0 := by omega
    go_enter Try.func10, Try.ntmps10
    go_wp2
    go_ret
    exact ⟨rfl, rfl⟩

theorem mpath_Heard_ok (w : World) (bs : Nat) (s : SendS) (kb : BuckS) (room turns : Int) (L : List It) {B : Nat} (h : IsS B w bs s kb room turns L) (i : Nat) (hi : i < 2) (n : Int) (k : Nat) (hk : k ≤ 1000000) (hc : (wayAt s i).Cnt k) :
    Calls Try.prog 10 #[.pointer (some ⟨bs, 0, none⟩), .int .i64 i, .int .u32 n] w fun e w' => e = .returned (.int .i64 (heardS (wayAt s i) n).2) ∧ IsS B w' bs (setWay s i (heardS (wayAt s i) n).1) kb room turns L ∧ Fr (Hot B w) w w' := by
  obtain ⟨a1, a2, a3, a4, a5, a6, a7, a8, a9, a10⟩ := hc
  obtain ⟨pre, post, hsg, hback⟩ := SendS.part h.blk i hi
  have PH := Lib.hid (path_Heard w bs 64 (i * 15) pre post (wayAt s i) hsg n a1 (by omega) a3 (by omega) a5 (by omega) a7 a8 a9 (by omega))
  have i0 : (0 : Int) ≤ i := by omega
  have i1 : (i : Int) < 2 := by omega
  have HB := Lib.hid hback
  have H := Lib.hid h
  clear a1 a2 a3 a4 a5 a6 a7 a8 a9 a10 hsg hback h
  go_enter Try.func10, Try.ntmps10
  go_wp2_with (go_at_call 25; refine PH.out.mono ?_; rintro e w1 ⟨rfl, hs1, hf1⟩; have HS1 := Lib.hid hs1; have HF1 := Lib.hid hf1; clear hs1 hf1)
  go_ret
  have hb := HB.out _ _ HS1.out
  obtain ⟨k1, k2, _⟩ := setWay_kept s i (heardS (wayAt s i) n).1
  obtain ⟨o0, o1⟩ := setWay_ok s i (heardS (wayAt s i) n).1 H.out.ok0 H.out.ok1 (heardS_ok _ n (wayAt_ok s i H.out.ok0 H.out.ok1))
  obtain ⟨hs, hot⟩ := IsS.blkF H.out hb k1 k2 o0 o1 HF1.out
  exact ⟨rfl, hs, hot⟩

end Go.Proofs.Ytppnaeedangndaa
