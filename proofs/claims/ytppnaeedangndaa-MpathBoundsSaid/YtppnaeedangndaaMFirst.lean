/- What goes goes by rank: the walk of the law. -/
import Derived.Test.YtppnaeedangndaaMAwake
namespace Go.Mm

/-- What is known of the last one that went. -/
def LastIs (N : Nat) (ks : List Nat) (last : Value) : Prop := (ks = [] ∧ last = .int .i64 (-1)) ∨ ∃ n, ks.getLast? = some n ∧ last = .int .i64 (n : Nat) ∧ n < N

theorem flatSent_get (l : List SentS) (r : List Value) (i k : Nat) (hi : i < l.length) (hk : k < 12) : (flatSent l ++ r)[i * 12 + k]? = l[i].cells[k]? := by
  induction l generalizing i with
  | nil => simp at hi
  | cons x l ih =>
    have e : flatSent (x :: l) = x.cells ++ flatSent l := rfl
    have hc : x.cells.length = 12 := rfl
    rw [e, List.append_assoc]
    cases i with
    | zero =>
      rw [List.getElem?_append_left (by rw [hc]; omega)]
      simp
    | succ i =>
      rw [List.getElem?_append_right (by rw [hc]; omega), hc]
      have : (i + 1) * 12 + k - 12 = i * 12 + k := by omega
      rw [this, ih i (by simpa using hi)]
      simp

end Go.Mm
namespace Go.Proofs.Ytppnaeedangndaa
open Go.RowKit Go.Mm Go.Rg

def rkOf (zs : List Int) (j : Nat) : Int := zs.getD j 0

/-- A list of numbers in memory. -/
structure IntsAt (w : World) (v : Value) (zs : List Int) : Prop where
  form : (zs = [] ∧ ∃ a c, v = .slice a 0 c) ∨ ∃ b o c, v = .slice (some ⟨b, o, none⟩) zs.length c ∧ zs.length ≤ c ∧ ∀ i, i < zs.length → w.cell? ⟨b, o + i, none⟩ = some (.int .i64 (zs.getD i 0))
  small : zs.length ≤ 9223372036854775807

theorem cell_keep {w w' : World} {b o : Nat} {v : Value} (h : w.cell? ⟨b, o, none⟩ = some v) (hf : Fr (fun _ => False) w w') : w'.cell? ⟨b, o, none⟩ = some v := by
  have h1 : Reads w b o [v] := fun j hj => by
    have hj' : j < 1 := hj
    have : j = 0 := by omega
    subst this
    exact h
  exact h1.keep hf 0 (by simp)

theorem row_form {w : World} {base : Nat} {e : TypeId} {size : Nat} {v : Value} {n : Nat} {xs : List Value} (h : w.ownsRow base e size v n xs) : ∃ A c, v = .slice A n c ∧ n ≤ 9223372036854775807 ∧ (0 < n → ∃ g sp, A = some ⟨g, 0, none⟩ ∧ Blk w g e (xs ++ sp)) := by
  by_cases hn : 0 < n
  · obtain ⟨g, cap, sp, rfl, hb, hc, hm, _⟩ := owns_blk (owns_zero h) hn
    exact ⟨_, cap, rfl, by unfold maxLen at hm; omega, fun _ => ⟨g, sp, rfl, hb⟩⟩
  · obtain rfl : n = 0 := by omega
    rcases h.2 with ⟨rfl, _⟩ | ⟨g, cap, cur, rfl, _⟩
    · exact ⟨none, 0, rfl, Nat.zero_le _, fun h => by omega⟩
    · exact ⟨_, cap, rfl, Nat.zero_le _, fun h => by omega⟩

def FirstLoop (B : Nat) (w : World) (bs : Nat) (s0 : SendS) (kb : BuckS) (zs : List Int) (i : Nat) (wr : World) : Prop :=
  ∃ L : List It, IsS B wr bs s0 kb 256 i L ∧ QOk (rkOf zs) i L ∧ L.length = i ∧ Fr (fun _ => False) w wr

def NextLoop (B : Nat) (w : World) (bs : Nat) (zs : List Int) (k : Nat) (last : Value) (wr : World) : Prop :=
  ∃ s kk turns L ks, IsS B wr bs s kk 256 turns L ∧ QOk (rkOf zs) zs.length L ∧ KI (rkOf zs) ks L ∧ LastIs zs.length ks last ∧ 0 ≤ s.held ∧ s.held ≤ k ∧ L.length ≤ 100 ∧ Fr (fun _ => False) w wr

set_option maxRecDepth 100000 in
set_option maxHeartbeats 3200000 in
theorem law15_First (w : World) (rate burst room : Int) (b o c : Nat) (zs : List Int) (hz : zs.length ≤ 9223372036854775807) (hcell : ∀ i, i < zs.length → w.cell? ⟨b, o + i, none⟩ = some (.int .i64 (zs.getD i 0))) (a : Option Addr) (ha : 0 < zs.length → a = some ⟨b, o, none⟩)
    (g1 : 1 ≤ rate) (g2 : rate ≤ 100000) (g3 : 1 ≤ burst) (g4 : burst ≤ 100000) (g5 : zs.length ≤ 100) :
    Calls Try.prog 3 #[.agg #[.int .i64 rate, .int .i64 burst, .int .i64 room], .slice a zs.length c] w fun e w' => e = .returned (.bool true) ∧ Fr (fun _ => False) w w' := by
  have HC := Lib.hid hcell
  have HA := Lib.hid ha
  clear hcell ha
  obtain ⟨N, hN⟩ : ∃ N, N = zs.length := ⟨_, rfl⟩
  rw [← hN] at hz g5 HA HC ⊢
  have HN := Lib.hid hN
  clear hN
  go_enter Try.func3, Try.ntmps3
  go_upto_region 3 with (go_at_call 5; refine (law15_awake _).mono ?_; rintro e w1 ⟨rfl, hf1⟩)
  have hz1 : Blk w1 w.heap.size 23 [.int .i64 rate, .int .i64 burst, .int .i64 room] := Blk.keep (S := fun _ => False) (Blk.new w _ _) hf1 (fun e => e)
  have k0 : w1.cell? ⟨w.heap.size, 0, none⟩ = some (.int .i64 rate) := hz1.cell 0
  have k1 : w1.cell? ⟨w.heap.size, 1, none⟩ = some (.int .i64 burst) := hz1.cell 1
  have hf1 : Fr (fun _ => False) w w1 := ((Fr.refl _ w).alloc _).trans hf1
  have HF1 := Lib.hid hf1
  clear hf1 hz1
  go_upto_region 8 with (go_at_call 6; refine (mpath_New 7 rate burst 256 w1 (by omega) (by omega) (by omega) (by omega) (by omega) (by omega)).mono ?_; rintro e w2 ⟨bs, bk, qu, rfl, hs2, hf2⟩)
  have hB : w.heap.size ≤ w1.heap.size := HF1.out.size
  have H2 : Hid (FirstLoop w1.heap.size w bs ⟨zPath, zPath, bk, qu, 7, 0, 0, 0⟩ ⟨rate, burst, burst, 0, 0⟩ zs 0 w2) := Lib.hid ⟨[], hs2, ⟨fun i _ hi => by simp at hi, by simp⟩, rfl, HF1.out.trans hf2⟩
  clear hs2 hf2 k0 k1 HF1
  go_wp2_with fail
  go_loopw [7] (fun v wr => ∃ i : Nat, v = .int .i64 i ∧ i ≤ N ∧ FirstLoop w1.heap.size w bs ⟨zPath, zPath, bk, qu, 7, 0, 0, 0⟩ ⟨rate, burst, burst, 0, 0⟩ zs i wr) (fun v _ => N - (intOf v).toNat)
  case atStart => exact ⟨0, rfl, Nat.zero_le _, H2.out⟩
  case round =>
    clear H2
    obtain ⟨i, rfl, hi, L, hs, hq, hl, hf⟩ := hrel
    have i0 : (0 : Int) ≤ i := by omega
    by_cases hlt : i < N
    · obtain rfl : a = some ⟨b, o, none⟩ := HA.out (by omega)
      have kc : wr.cell? ⟨b, o + i, none⟩ = some (.int .i64 (zs.getD i 0)) := cell_keep (HC.out i hlt) hf
      obtain ⟨r, hr⟩ : ∃ r : Int, r = zs.getD i 0 := ⟨_, rfl⟩
      rw [← hr] at kc
      have HR := Lib.hid hr
      have PP := Lib.hid (mpath_Push_ok wr bs _ _ 256 i L hs (by omega) (by omega) (by omega) big0 r ⟨6, 0, 0, 0, 0, i, 0, 0, 0, 0, none, 0, 0⟩ [] (data_none _ _) (by simp [checkS, formS]))
      have HF := Lib.hid hf; have HQ := Lib.hid hq; have HL := Lib.hid hl
      clear hf hq hl hs hr
      go_wp2_with (go_at_call 7; refine PP.out.mono ?_; rintro e w3 ⟨rfl, hp, hf3⟩; have HP := Lib.hid hp; have HF3 := Lib.hid hf3; clear hp hf3)
      go_roundw
      case rel =>
        obtain ⟨g, cap, cs, hb, hs3⟩ := HP.out
        refine ⟨i + 1, by go_num, by omega, _, hs3, push_good HQ.out _ ⟨HR.out, rfl, rfl, rfl⟩, ?_, Hot.new HF.out hB HF3.out⟩
        rw [(Hp.push_perm ahead L _).length_eq]; simp [HL.out]
      case measure => simp [intOf]; omega
    · obtain rfl : N = i := by omega
      have H3 : Hid (NextLoop w1.heap.size w bs zs 0 (.int .i64 (-1)) wr) := Lib.hid ⟨_, _, _, L, [], hs, by rw [← HN.out]; exact hq, ⟨List.Pairwise.nil, by simp⟩, .inl ⟨rfl, rfl⟩, Int.le_refl 0, Int.le_refl 0, by omega, hf⟩
      clear hs hq hf
      obtain ⟨wo, hwo⟩ : ∃ wo : World, wo = wr := ⟨_, rfl⟩
      rw [← hwo] at H3 ⊢
      clear hwo
      go_wp2_with fail
      go_loopw [9, 8] (fun v last wr => ∃ k : Nat, v = .int .i64 k ∧ k ≤ 40 ∧ NextLoop w1.heap.size w bs zs k last wr) (fun v _ _ => 40 - (intOf v).toNat)
      case atStart => exact ⟨0, rfl, Nat.zero_le _, H3.out⟩
      case round =>
        clear H3
        obtain ⟨k, rfl, hk, s, kk, turns, M, ks, hs, hq, hki, hlast, hh0, hh1, hml, hf⟩ := hrel
        by_cases hk40 : k < 40
        · have PF := Lib.hid (mpath_Flush wr bs s kk 256 turns M hs (by omega) (fun x hx => by obtain ⟨_, _, _, _, _, h⟩ := hq.good x hx; omega) ⟨hh0, by omega⟩)
          obtain ⟨hq2, hki2, hml2⟩ := flushS_ord (s := s) (k := kk) hq hki
          have hoa := flushS_a (s := s) (k := kk) hq
          obtain ⟨_, hd1, hd2, _⟩ := flushR_held' (M.length + 1) ⟨s, kk, [], M⟩
          have hd1 : s.held ≤ (flushS s kk M).s.held := hd1
          have hd2 : (flushS s kk M).s.held ≤ s.held + 1 := hd2
          generalize flushS s kk M = F at *
          obtain ⟨s', kk', out, M'⟩ := F
          simp only at hq2 hki2 hml2 hoa hd1 hd2 PF
          have HF := Lib.hid hf
          have HQ2 := Lib.hid hq2; have HK2 := Lib.hid hki2; have HOA := Lib.hid hoa
          have HLA := Lib.hid hlast
          clear hf hs hq hki hq2 hki2 hoa hlast
          have e0 : (0 : Int) ≤ s'.held := by omega
          have e1 : s'.held ≤ (k : Int) + 1 := by omega
          clear hh0 hh1 hd1 hd2
          go_upto_block 4 with (go_at_call 8; refine PF.out.mono ?_; rintro e w4 ⟨v, rfl, hv, hs4, hf4⟩)
          obtain ⟨A, c4, rfl, hc4, hA⟩ := row_form hv
          have HF4 := Lib.hid (Hot.new HF.out hB hf4)
          have HS4 := Lib.hid hs4
          have HAA := Lib.hid hA
          clear hv hs4 hf4 hA PF
          have HLL : Hid (LastIs N (ks ++ (keysOf out).take 0) u8) := Lib.hid (by rw [HN.out]; simpa using HLA.out)
          clear HLA
          obtain ⟨n, hn⟩ : ∃ n, n = out.length := ⟨_, rfl⟩
          rw [← hn] at HAA hc4 ⊢
          have HNO := Lib.hid hn
          clear hn
          go_cut [8] (fun last wx => LastIs N (ks ++ keysOf out) last ∧ Fr (fun _ => False) w4 wx)
          case first =>
            go_wp2_with fail
            go_loopw [11, 8] (fun v last wr => ∃ i : Nat, v = .int .i64 i ∧ i ≤ n ∧ LastIs N (ks ++ (keysOf out).take i) last ∧ Fr (fun _ => False) w4 wr) (fun v _ _ => n - (intOf v).toNat)
            case atStart => exact ⟨0, rfl, Nat.zero_le _, HLL.out, Fr.refl _ _⟩
            case round =>
              clear HLL
              obtain ⟨i, rfl, hi, hlast, hf⟩ := hrel
              have i0 : (0 : Int) ≤ i := by omega
              by_cases hin : i < n
              · have hio : i < out.length := by rw [← HNO.out]; exact hin
                obtain ⟨g, sp, rfl, hg⟩ := HAA.out (by omega)
                obtain ⟨m, hm, hma⟩ := HOA.out _ (List.getElem_mem hio)
                have hkey : (keysOf out)[i]? = some m := by
                  unfold keysOf keyD
                  rw [List.getElem?_map, List.getElem?_eq_getElem hio]
                  simp [hma]
                have kg : wr.cell? ⟨g, i * 12 + 6, none⟩ = some (.int .u32 m) := by
                  rw [(hg.keep hf (fun e => e)).cell, flatSent_get out sp i 6 hio (by omega)]
                  simp [SentS.cells, DG.cells, hma]
                have htk : (keysOf out).take (i + 1) = (keysOf out).take i ++ [m] := by
                  rw [List.take_add_one, hkey]; rfl
                have hmN : m < N := by rw [HN.out]; exact hm
                obtain rfl : a = some ⟨b, o, none⟩ := HA.out (by omega)
                have ff : Fr (fun _ => False) w wr := HF4.out.trans hf
                have km : wr.cell? ⟨b, o + m, none⟩ = some (.int .i64 (rkOf zs m)) := cell_keep (HC.out m hmN) ff
                have hpost : ∀ x, LastIs N (ks ++ (keysOf out).take (i + 1)) x ↔ LastIs N ((ks ++ (keysOf out).take i) ++ [m]) x := by intro x; rw [htk, List.append_assoc]
                have HPO : Hid (LastIs N (ks ++ (keysOf out).take (i + 1)) (.int .i64 m)) := Lib.hid ((hpost _).2 (.inr ⟨m, by simp, rfl, hmN⟩))
                have hord : (u8 = .int .i64 (-1)) ∨ ∃ n : Nat, u8 = .int .i64 n ∧ n < N ∧ leq (rkOf zs) n m := by
                  rcases hlast with ⟨_, h⟩ | ⟨n', hn', h, hlt'⟩
                  · exact .inl h
                  · refine .inr ⟨n', h, hlt', ?_⟩
                    have hpw := HK2.out.pw
                    have hsplit : ks ++ keysOf out = (ks ++ (keysOf out).take i) ++ (keysOf out).drop i := by rw [List.append_assoc, List.take_append_drop]
                    rw [hsplit, List.pairwise_append] at hpw
                    refine hpw.2.2 n' (List.mem_of_getLast? hn') m ?_
                    rw [List.drop_eq_getElem?_toList_append, hkey]
                    simp
                have m0 : (0 : Int) ≤ m := by omega
                have HFF := Lib.hid hf
                have kl : ∀ n' : Nat, n' < N → wr.cell? ⟨b, o + n', none⟩ = some (.int .i64 (rkOf zs n')) := fun n' hn' => cell_keep (HC.out n' hn') ff
                have HKL := Lib.hid kl
                clear hkey htk hpost hm hma hg hio ff hf hlast kl
                generalize hrm : rkOf zs m = rm at km hord ⊢
                rcases hord with rfl | ⟨n', rfl, hnN, hle⟩
                · go_upto_region 24 with fail
                  go_quiet (fail)
                  go_wp2
                  go_roundw
                  case rel => exact ⟨i + 1, by go_num, by omega, HPO.out, HFF.out.drewN _⟩
                  case measure => simp [intOf]; omega
                · have kn : wr.cell? ⟨b, o + n', none⟩ = some (.int .i64 (rkOf zs n')) := HKL.out n' hnN
                  have n0 : (0 : Int) ≤ n' := by omega
                  unfold leq at hle
                  rw [hrm] at hle
                  generalize rkOf zs n' = rl at kn hle
                  rcases hle with hle | ⟨rfl, hle⟩
                  · have d1 : decide (rm < rl) = false := by simp; omega
                    have d2 : (rm == rl) = false := by simp; omega
                    go_upto_region 24 with fail
                    go_quiet (fail)
                    go_wp2
                    go_roundw
                    case rel => exact ⟨i + 1, by go_num, by omega, HPO.out, HFF.out.drewN _⟩
                    case measure => simp [intOf]; omega
                  · have d1 : decide (rl < rl) = false := by simp
                    have d3 : decide ((m : Int) < (n' : Int)) = false := by simp; omega
                    go_upto_region 24 with fail
                    go_quiet (fail)
                    go_wp2
                    go_roundw
                    case rel => exact ⟨i + 1, by go_num, by omega, HPO.out, HFF.out.drewN _⟩
                    case measure => simp [intOf]; omega
              · obtain rfl : n = i := by omega
                have HL2 := Lib.hid hlast
                have HF2 := Lib.hid hf
                clear hlast hf
                go_wp2_with fail
                go_meet
                refine ⟨?_, HF2.out⟩
                have := HL2.out
                rwa [List.take_of_length_le (by unfold keysOf; rw [List.length_map, HNO.out]; exact Nat.le_refl _)] at this
          case rest =>
            obtain ⟨hlast, hf5⟩ := hcut
            have HS5 := Lib.hid (HS4.out.keep hf5)
            have HF5 := Lib.hid (HF4.out.trans hf5)
            have HL5 := Lib.hid hlast
            have PT := Lib.hid (fun W (h : IsS w1.heap.size W bs s' kk' 256 turns M') => mpath_Tick W bs s' kk' 256 turns M' h)
            clear hlast hf5 HF4 HS4 HLL HAA
            go_wp2_with (go_at_call 9; refine (PT.out _ HS5.out).mono ?_; rintro e w6 ⟨v6, rfl, hv6, hs6, hf6⟩; have HS6 := Lib.hid hs6; have HF6 := Lib.hid (Hot.new HF5.out hB hf6); clear hv6 hs6 hf6)
            go_roundw
            case rel =>
              obtain ⟨t1, t2, t3, t4, t5⟩ := tickRun_s s' kk' 2
              exact ⟨k + 1, by go_num, by omega, _, _, turns, M', ks ++ keysOf out, HS6.out, HQ2.out, HK2.out, by rw [← HN.out]; exact HL5.out, by rw [t5]; exact e0, by rw [t5]; exact e1, by omega, HF6.out⟩
            case measure => simp [intOf]; omega
        · obtain rfl : k = 40 := by omega
          have HF := Lib.hid hf
          clear hf hs hq hki hlast
          go_wp2
          go_ret
          exact ⟨rfl, HF.out⟩

end Go.Proofs.Ytppnaeedangndaa
