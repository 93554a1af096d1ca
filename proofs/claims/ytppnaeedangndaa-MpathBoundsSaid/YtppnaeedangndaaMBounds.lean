/- The budget: the walk of the law. -/
import Derived.Test.YtppnaeedangndaaMBW
import Derived.Test.YtppnaeedangndaaMFirst
import Derived.Deep.DeepCutAuto
import Derived.Deep.CutBlock
namespace Go.Proofs.Ytppnaeedangndaa
open Go.RowKit Go.Mm Go.Rg

theorem sz_op : (Try.prog.info? 43).map (·.size) = some 16 := by kernel_rfl

/-- A call of zeros. -/
def zOp : List Value := [.int .i64 0, .int .i64 0] ++ zDG ++ [.int .i64 0, .int .i64 0, .int .u32 0]

theorem op_fits (x : OpS) : 0 + x.cells.length ≤ zOp.length := by rw [OpS.length_cells]; exact Nat.le_refl 16
theorem op_same (x : OpS) : zOp.length = x.cells.length := by rw [OpS.length_cells]; rfl

/-- The script in memory. -/
structure ScriptAt (w : World) (b o : Nat) (ops : List OpS) : Prop where
  cell : ∀ i (h : i < ops.length), Reads w b (o + i * 16) (ops[i]).cells
  data : ∀ i (h : i < ops.length), ∃ l, DataAt w (ops[i]).d.da (ops[i]).d.dl l

theorem zPath_cnt : zPath.Cnt 0 := by constructor <;> decide

/-- In the midst of looking at what went. -/
structure Held (B : Nat) (w : World) (bs bn bz : Nat) (room : Int) (zc : List Value) (s : SendS) (k : BuckS) (turns : Int) (L : List It) (v : Value) (outs : List SentS) (nn : Int × Int) (wx : World) : Prop where
  row : wx.ownsRow w.heap.size 38 12 v outs.length (flatSent outs)
  sender : IsS B wx bs s k room turns L
  items : ∀ x ∈ L, DOk wx x.d
  all : ∀ e ∈ outs, DOk wx e.d
  next : Blk wx bn 41 [.int .u32 nn.1, .int .u32 nn.2]
  zb : Blk wx bz 23 zc
  fr : Fr (fun _ => False) w wx

theorem Held.no {B : Nat} {w : World} {bs bn bz : Nat} {room : Int} {zc : List Value} {s : SendS} {k : BuckS} {turns : Int} {L : List It} {v : Value} {outs : List SentS} {nn : Int × Int} {wx wy : World}
    (h : Held B w bs bn bz room zc s k turns L v outs nn wx) (hf : Fr (fun _ => False) wx wy) : Held B w bs bn bz room zc s k turns L v outs nn wy :=
  ⟨Fr.owns h.row hf (fun _ _ e => e), h.sender.keep hf, fun x hx => (h.items x hx).no hf, fun e he => (h.all e he).no hf, h.next.keep hf (fun e => e), h.zb.keep hf (fun e => e), h.fr.trans hf⟩

theorem Held.count {B : Nat} {w : World} {bs bn bz : Nat} {room : Int} {zc : List Value} {s : SendS} {k : BuckS} {turns : Int} {L : List It} {v : Value} {outs : List SentS} {nn nm : Int × Int} {wx wy : World}
    (h : Held B w bs bn bz room zc s k turns L v outs nn wx) (hb : w.heap.size ≤ bn) (hn : Blk wy bn 41 [.int .u32 nm.1, .int .u32 nm.2]) (hf : Fr (· = bn) wx wy) : Held B w bs bn bz room zc s k turns L v outs nm wy :=
  ⟨Fr.owns h.row hf (owns_ne h.row h.next (by decide)), h.sender.keepB h.next (by unfold hotT; decide) hf, fun x hx => (h.items x hx).keep hf (fun b T cs hB e => by subst e; rw [(hB.same h.next).1]; decide), fun e he => (h.all e he).keep hf (fun b T cs hB e => by subst e; rw [(hB.same h.next).1]; decide),
   hn, h.zb.keep hf (h.zb.ne h.next (by decide)), h.fr.then hf (fun b hb' e => by omega)⟩

theorem next_cell {w : World} {bn T : Nat} {n : Int × Int} (h : Blk w bn T [.int .u32 n.1, .int .u32 n.2]) (i : Nat) (hi : i < 2) : w.cell? ⟨bn, i, none⟩ = some (.int .u32 (nget n i)) := by
  rw [h.cell]
  match i, hi with
  | 0, _ => rfl
  | 1, _ => rfl

theorem next_set {w : World} {bn T : Nat} {n : Int × Int} (h : Blk w bn T [.int .u32 n.1, .int .u32 n.2]) (i : Nat) (hi : i < 2) : Blk (w.setCell ⟨bn, i, none⟩ (.int .u32 (IntKind.u32.wrap (nget n i + 1)))) bn T [.int .u32 (bump n i).1, .int .u32 (bump n i).2] := by
  have := h.setCell i (.int .u32 (IntKind.u32.wrap (nget n i + 1)))
  match i, hi with
  | 0, _ => exact this
  | 1, _ => exact this

def BLoop (B : Nat) (w : World) (bs bn : Nat) (rate burst room : Int) (i : Nat) (v7 v8 : Value) (wr : World) : Prop :=
  ∃ s k turns L bytes ticks, v7 = .int .i64 bytes ∧ v8 = .int .i64 ticks ∧ IsS B wr bs s k room turns L ∧ (∀ x ∈ L, DOk wr x.d) ∧ (L.length : Int) ≤ room ∧ Blk wr bn 41 [.int .u32 (nx s).1, .int .u32 (nx s).2] ∧
    k.rate = rate ∧ k.burst = burst ∧ bytes + k.held ≤ burst + rate * ticks ∧ 0 ≤ bytes ∧ 0 ≤ ticks ∧ ticks ≤ 100 * (i : Int) ∧ Counts i s turns ∧ Fr (fun _ => False) w wr

set_option maxRecDepth 100000 in
set_option maxHeartbeats 6400000 in
theorem law15_Bounds (w : World) (rate burst room : Int) (b o c : Nat) (ops : List OpS) (hz : ops.length ≤ 9223372036854775807) (a : Option Addr) (ha : 0 < ops.length → a = some ⟨b, o, none⟩ ∧ ScriptAt w b o ops)
    (g1 : 1 ≤ rate) (g2 : rate ≤ 100000) (g3 : 1 ≤ burst) (g4 : burst ≤ 100000) (g5 : 1 ≤ room) (g6 : room ≤ 256) :
    Calls Try.prog 4 #[.agg #[.int .i64 rate, .int .i64 burst, .int .i64 room], .slice a ops.length c] w fun e w' => e = .returned (.bool true) ∧ Fr (fun _ => False) w w' := by
  have HA := Lib.hid ha
  clear ha
  obtain ⟨N, hN⟩ : ∃ N, N = ops.length := ⟨_, rfl⟩
  rw [← hN] at hz ⊢
  have HN := Lib.hid hN
  clear hN
  go_enter Try.func4, Try.ntmps4
  go_upto_region 3 with (go_at_call 5; refine (law15_awake _).mono ?_; rintro e w1 ⟨rfl, hf1⟩)
  have hz1 : Blk w1 w.heap.size 23 [.int .i64 rate, .int .i64 burst, .int .i64 room] := Blk.keep (S := fun _ => False) (Blk.new w _ _) hf1 (fun e => e)
  have k0 : w1.cell? ⟨w.heap.size, 0, none⟩ = some (.int .i64 rate) := hz1.cell 0
  have k1 : w1.cell? ⟨w.heap.size, 1, none⟩ = some (.int .i64 burst) := hz1.cell 1
  have k2 : w1.cell? ⟨w.heap.size, 2, none⟩ = some (.int .i64 room) := hz1.cell 2
  have HF1 := Lib.hid (((Fr.refl (fun _ => False) w).alloc (.cells #[.int .i64 rate, .int .i64 burst, .int .i64 room] 23)).trans hf1)
  have HZ1 := Lib.hid hz1
  clear hf1 hz1
  go_upto_region 9 with (go_at_call 6; refine (mpath_New 7 rate burst room w1 (by omega) (by omega) (by omega) (by omega) (by omega) (by omega)).mono ?_; rintro e w2 ⟨bs, bk, qu, rfl, hs2, hf2⟩; have HS2 := Lib.hid hs2; have HF2 := Lib.hid hf2; clear hs2 hf2)
  have hB : w.heap.size ≤ w1.heap.size := HF1.out.size
  go_upto_block 0 with fail
  obtain ⟨bn, hbn⟩ : ∃ bn, bn = w2.heap.size := ⟨_, rfl⟩
  obtain ⟨bz, hbz⟩ : ∃ bz, bz = w.heap.size := ⟨_, rfl⟩
  obtain ⟨w3, hw3⟩ : ∃ w3, w3 = w2.alloc (.cells #[.int .u32 0, .int .u32 0] 41) := ⟨_, rfl⟩
  have hfa : Fr (fun _ => False) w2 w3 := by rw [hw3]; exact (Fr.refl _ _).alloc _
  have hn3 : Blk w3 bn 41 [.int .u32 0, .int .u32 0] := by rw [hw3, hbn]; exact Blk.new _ _ _
  have hz3 : Blk w3 bz 23 [.int .i64 rate, .int .i64 burst, .int .i64 room] := by rw [hbz]; exact (HZ1.out.keep HF2.out (fun e => e)).keep hfa (fun e => e)
  have hs3 := HS2.out.keep hfa
  have hf3 : Fr (fun _ => False) w w3 := (HF1.out.trans HF2.out).trans hfa
  have bnd0 : w.heap.size ≤ bn := by have h1 := HF1.out.size; have h2 := HF2.out.size; omega
  have bnd1 : w.heap.size ≤ bz := by omega
  rw [← hbn, ← hbz, ← hw3]
  have hL0 : BLoop w1.heap.size w bs bn rate burst room 0 (.int .i64 0) (.int .i64 0) w3 := ⟨_, _, _, [], 0, 0, rfl, rfl, hs3, by simp, by simp; omega, hn3, rfl, rfl, by show (0 : Int) + burst ≤ burst + rate * 0; omega, Int.le_refl 0, Int.le_refl 0, by simp, ⟨Int.le_refl 0, Int.le_refl 0, Int.le_refl 0, Int.le_refl 0, Int.le_refl 0, Int.le_refl 0, zPath_cnt, zPath_cnt⟩, hf3⟩
  have HL0 := Lib.hid hL0
  have HZ3 := Lib.hid hz3
  clear hL0 hz3 hs3 hf3 hn3 hfa hw3 hbn hbz HS2 HF2 HZ1 k0 k1 k2
  go_wp2_with fail
  go_loopw [10, 7, 8] (fun v v7 v8 wr => ∃ i : Nat, v = .int .i64 i ∧ i ≤ 60 ∧ i ≤ N ∧ BLoop w1.heap.size w bs bn rate burst room i v7 v8 wr ∧ Blk wr bz 23 [.int .i64 rate, .int .i64 burst, .int .i64 room]) (fun v _ _ _ => 60 - (intOf v).toNat)
  case atStart => exact ⟨0, rfl, by omega, Nat.zero_le _, HL0.out, HZ3.out⟩
  case round =>
    clear HL0 HZ3
    obtain ⟨i, rfl, hi60, hiN, ⟨s, k, turns, L, bytes, ticks, rfl, rfl, hs, hit, hlen, hnx, hkr, hkb, hbud, hb0, ht0, ht1, hcnt, hf⟩, hzb⟩ := hrel
    have i0 : (0 : Int) ≤ i := by omega
    by_cases hgo : i < N ∧ i < 60
    · obtain ⟨hN1, h60⟩ := hgo
      obtain ⟨rfl, hsc⟩ := HA.out (by rw [← HN.out]; omega)
      have hio : i < ops.length := by rw [← HN.out]; exact hN1
      have hcell := hsc.cell i hio
      have hdata := hsc.data i hio
      obtain ⟨op, hop⟩ : ∃ op, op = ops[i] := ⟨_, rfl⟩
      rw [← hop] at hcell hdata
      obtain ⟨kd, rk, d, n, wy, th⟩ := op
      clear hop hio hsc HA
      have HC := Lib.hid (hcell.keep hf)
      have HD := Lib.hid hdata
      have HS := Lib.hid hs; have HIT := Lib.hid hit; have HNX := Lib.hid hnx; have HKR := Lib.hid hkr; have HKB := Lib.hid hkb; have HBUD := Lib.hid hbud; have HCN := Lib.hid hcnt; have HF := Lib.hid hf; have HZ := Lib.hid hzb
      have bnd : w.heap.size ≤ wr.heap.size := hf.size
      clear hcell hdata hs hit hnx hkr hkb hbud hcnt hf hzb
      go_upto_region 15 with (first
        | (refine wpList_load_agg rfl 43 (.tmp 74) rfl b (o + i * 16) rfl (⟨kd, rk, d, n, wy, th⟩ : OpS).cells HC.out Try.underlying43 rfl sz_op ?_)
        | (refine wpList_store_agg rfl 43 (.tmp 12) (.tmp 75) rfl wr.heap.size 0 rfl (⟨kd, rk, d, n, wy, th⟩ : OpS).cells rfl _ zOp (Blk.new wr _ zOp) (op_fits _) (OpS.one _) sz_op ?_
           intro w4 ho4 hf4
           rw [splice_whole _ _ (op_same _)] at ho4))
      have fr4 : Fr (fun _ => False) wr w4 := ((Fr.refl _ wr).alloc _).then hf4 (fun b hb e => by omega)
      obtain ⟨bo, hbo⟩ : ∃ bo, bo = wr.heap.size := ⟨_, rfl⟩
      rw [← hbo] at ho4 ⊢
      have bndo : w.heap.size ≤ bo := by omega
      have ff4 := HF.out.trans fr4
      have q0 : w4.cell? ⟨bo, 0, none⟩ = some (.int .i64 kd) := ho4.cell 0
      have q1 : w4.cell? ⟨bo, 1, none⟩ = some (.int .i64 rk) := ho4.cell 1
      have q13 : w4.cell? ⟨bo, 13, none⟩ = some (.int .i64 n) := ho4.cell 13
      have q14 : w4.cell? ⟨bo, 14, none⟩ = some (.int .i64 wy) := ho4.cell 14
      have q15 : w4.cell? ⟨bo, 15, none⟩ = some (.int .u32 th) := ho4.cell 15
      have qd : Reads w4 bo 2 d.cells := Reads.of_blk ho4 2 d.cells (fun j hj => by
        have hj' : j < 11 := hj
        show (OpS.cells _)[2 + j]? = _
        unfold OpS.cells
        rw [show 2 + j = (j + 1) + 1 by omega, List.getElem?_cons_succ, List.getElem?_cons_succ, List.getElem?_append_left (by rw [DG.length_cells]; exact hj')])
      have hd4 : ∃ l, DataAt w4 d.da d.dl l := by
        obtain ⟨l, hl⟩ := HD.out
        exact ⟨l, DataAt.keep hl ff4⟩
      have HS4 := Lib.hid (HS.out.keep fr4)
      have HIT4 := Lib.hid (fun x hx => (HIT.out x hx).no fr4)
      have HNX4 := Lib.hid (HNX.out.keep fr4 (fun e => e))
      have HF4 := Lib.hid ff4
      have HZ4 := Lib.hid (HZ.out.keep fr4 (fun e => e))
      have HQD := Lib.hid qd; have HD4 := Lib.hid hd4; have HO4 := Lib.hid ho4
      have bnd4 : w.heap.size ≤ w4.heap.size := ff4.size
      clear hbo hf4 fr4 ff4 HS HIT HNX HF HZ HC HD qd hd4 ho4
      go_upto_block 2 with fail
      go_cut [8, 11] (fun v8 v11 wx => (∃ s' k' turns' L' ticks' outs, v8 = .int .i64 ticks' ∧ ticks ≤ ticks' ∧ ticks' ≤ ticks + 100 ∧ After w1.heap.size w bs bn room i s k (rate * ticks) s' k' turns' L' (rate * ticks') outs v11 wx) ∧ Blk wx bz 23 [.int .i64 rate, .int .i64 burst, .int .i64 room])
      case first =>
        have hkd : kd = 0 ∨ kd = 1 ∨ kd = 2 ∨ kd = 3 ∨ ((kd == 0) = false ∧ (kd == 1) = false ∧ (kd == 2) = false ∧ (kd == 3) = false) := by
          by_cases c0 : kd = 0
          · exact .inl c0
          by_cases c1 : kd = 1
          · exact .inr (.inl c1)
          by_cases c2 : kd = 2
          · exact .inr (.inr (.inl c2))
          by_cases c3 : kd = 3
          · exact .inr (.inr (.inr (.inl c3)))
          exact .inr (.inr (.inr (.inr ⟨by simpa using c0, by simpa using c1, by simpa using c2, by simpa using c3⟩)))
        rcases hkd with rfl | rfl | rfl | rfl | ⟨e0, e1, e2, e3⟩
        · -- a push
          obtain ⟨l, hl⟩ := HD4.out
          have PP := Lib.hid (mpath_Push w4 bs s k room turns L HS4.out (by omega) (by have := HCN.out.t0; have := HCN.out.t1; omega) (by have := HCN.out.d0; have := HCN.out.d1; omega) rk d l hl)
          have HL4 := Lib.hid hl
          clear hl
          go_wp2_with first
            | (refine wpList_load_agg rfl 34 (.tmp 83) rfl bo 2 rfl d.cells HQD.out Try.underlying34 rfl sz_dg ?_)
            | (go_at_call 7; refine PP.out.mono ?_; rintro e w5 ⟨rfl, hno, hyes, hf5⟩; have HNO := Lib.hid hno; have HYES := Lib.hid hyes; have HF5 := Lib.hid hf5; clear hno hyes hf5)
          go_meet
          refine ⟨?_, Hot.blk HZ4.out (by unfold hotT; decide) HF5.out⟩
          have hfr := Hot.new HF4.out hB HF5.out
          have hnx := Hot.blk HNX4.out (by unfold hotT; decide) HF5.out
          by_cases hc : checkS { d with session := s.session, path := 0 } l = 0
          · obtain ⟨g, cap, cs, hb, hs5⟩ := HYES.out hc
            have hdr : (dropS s room L).dropped = s.dropped ∨ (dropS s room L).dropped = s.dropped + 1 := by unfold dropS; split; exact .inl rfl; exact .inr rfl
            have hdn : nx (dropS s room L) = nx s ∧ (dropS s room L).held = s.held ∧ SameC s (dropS s room L) := by unfold dropS; split <;> exact ⟨rfl, rfl, ⟨rfl, rfl, rfl, rfl, rfl⟩, ⟨rfl, rfl, rfl, rfl, rfl⟩⟩
            refine ⟨dropS s room L, k, turns + 1, _, ticks, [], rfl, Int.le_refl _, by omega, ⟨World.ownsRow_nil _ _ _ _, hs5, ?_, pushL_len room L _ hlen, by simp, trivial, hdn.1, rfl, rfl, by simp [sizeAll], HCN.out.same (by omega) (by omega) (by rw [hdn.2.1]; omega) hdn.2.2, hnx, hfr⟩⟩
            intro y hy
            rcases pushL_mem room L _ y hy with hy | rfl
            · exact (HIT4.out y hy).hot HF5.out
            · exact ⟨l, HL4.out.len, HL4.out.byte, fun _ => ⟨g, cs, rfl, hb⟩, hc⟩
          · exact ⟨s, k, turns, L, ticks, [], rfl, Int.le_refl _, by omega, ⟨World.ownsRow_nil _ _ _ _, HNO.out hc, fun x hx => (HIT4.out x hx).hot HF5.out, hlen, by simp, trivial, rfl, rfl, rfl, by simp [sizeAll], HCN.out.same (by omega) (by omega) (by omega) (SameC.refl _), hnx, hfr⟩⟩
        · -- ticks
          have hT0 : TSt w1.heap.size w bs bn bz bo room [.int .i64 rate, .int .i64 burst, .int .i64 room] (⟨1, rk, d, n, wy, th⟩ : OpS).cells s k turns L 0 s k [] (.slice none 0 0) w4 :=
            ⟨World.ownsRow_nil _ _ _ _, HS4.out, HIT4.out, by simp, trivial, rfl, rfl, rfl, by simp [sizeAll], by simp, SameC.refl _, rfl, rfl, HNX4.out, HO4.out, HZ4.out, HF4.out⟩
          have HT0 := Lib.hid hT0
          obtain ⟨i0, hi, hz0, hz1, hz2⟩ := info_parts info_sent
          have I1 := Lib.hid hi; have I2 := Lib.hid hz0; have I3 := Lib.hid hz1; have I4 := Lib.hid hz2
          have I5 : Hid ((Try.prog.info? 38).isSome = true) := Lib.hid (by rw [I1.out]; rfl)
          clear hT0 hi hz0 hz1 hz2 HS4 HIT4 HNX4 HF4 HZ4 HQD HD4 HO4 q0 q1 q13 q14 q15
          go_wp2_with fail
          go_loopw [13, 8, 11] (fun v13 v8 v11 wr => ∃ j s' k' outs, v13 = .int .i64 (j : Nat) ∧ j ≤ 100 ∧ v8 = .int .i64 (ticks + j) ∧ TSt w1.heap.size w bs bn bz bo room [.int .i64 rate, .int .i64 burst, .int .i64 room] (⟨1, rk, d, n, wy, th⟩ : OpS).cells s k turns L j s' k' outs v11 wr) (fun v _ _ _ => 100 - (intOf v).toNat)
          case atStart => exact ⟨0, s, k, [], rfl, by omega, by simp, HT0.out⟩
          case round =>
            clear HT0
            obtain ⟨j, s', k', outs, rfl, hj, rfl, hst⟩ := hrel
            have j0 : (0 : Int) ≤ j := by omega
            have q13 : wr.cell? ⟨bo, 13, none⟩ = some (.int .i64 n) := hst.opb.cell 13
            have PT := Lib.hid (mpath_Tick wr bs s' k' room turns L hst.sender)
            obtain ⟨A, cA, rfl, hle, hcA, _⟩ := row_form2 hst.row
            have hfew := hst.few
            have HST := Lib.hid hst
            clear hst
            by_cases hjl : (j : Int) < n ∧ j < 100
            · obtain ⟨hj1, hj2⟩ := hjl
              go_upto_region 23 with (first
                | (go_at_call 9; refine PT.out.mono ?_; rintro e w5 ⟨v5, rfl, hv5, hs5, hf5⟩
                   have hTT := HST.out.tick hB hs5 hf5
                   have HR5 := Lib.hid hTT.1; have HTT := Lib.hid hTT.2; have HV5 := Lib.hid hv5
                   have bnd5 : w.heap.size ≤ w5.heap.size := (Hot.new HST.out.fr hB hf5).size
                   have rl5 := tickRun_len s' k' 2
                   clear hTT hv5 hs5 hf5)
                | (refine wpList_append_any w.heap.size rfl (.tmp 98) (.tmp 100) 35 rfl 38 i0 _ 12 96 Try.underlying35 I1.out I2.out I3.out I4.out rfl (by decide) _ outs.length (flatSent outs) rfl HR5.out bnd5 v5 (tickRun s' k' 2).out.length (flatSent (tickRun s' k' 2).out) rfl _ HV5.out (flatSent_one _) (by unfold maxLen; omega) (by omega) ?_
                   intro v6 w6 ho6 hf6
                   have HST6 := Lib.hid (HTT.out v6 w6 (by rw [List.length_append, flatSent_append]; exact ho6) hf6)
                   clear ho6 hf6))
              go_wp2
              go_roundw
              case rel => exact ⟨j + 1, _, _, _, by go_num, by omega, by simp only [Int.natCast_add]; go_num, HST6.out⟩
              case measure => simp [intOf]; omega
            · have hjl' : n ≤ (j : Int) ∨ ((j : Int) < n ∧ j = 100) := by omega
              clear hjl
              rcases hjl' with h | ⟨h, rfl⟩
              all_goals
                go_wp2
                go_meet
                have hst := HST.out
                refine ⟨⟨s', k', turns, L, _, outs, rfl, by omega, by omega, ⟨hst.row, hst.sender, hst.items, hlen, hst.all, hst.ok, hst.nxt, hst.rate, hst.burst, ?_, HCN.out.same (by omega) (by rw [hst.dr]; omega) (by rw [hst.hd]; omega) hst.same, hst.next, hst.fr⟩⟩, hst.zb⟩
                have h1 := hst.held
                rw [HKR.out] at h1
                rw [Int.mul_add]
                omega
        · -- a flush
          have PF := Lib.hid (mpath_Flush w4 bs s k room turns L HS4.out (by omega) (fun x hx => (HIT4.out x hx).small) ⟨HCN.out.h0, by have := HCN.out.h1; omega⟩)
          go_wp2_with (go_at_call 8; refine PF.out.mono ?_; rintro e w5 ⟨v, rfl, hv, hs5, hf5⟩; have HV := Lib.hid hv; have HS5 := Lib.hid hs5; have HF5 := Lib.hid hf5; clear hv hs5 hf5)
          go_meet
          refine ⟨?_, Hot.blk HZ4.out (by unfold hotT; decide) HF5.out⟩
          have FI := flushS_inv s k L
          obtain ⟨fm1, fm2⟩ := flushS_mem s k L
          obtain ⟨fd1, fd2, fd3, _⟩ := flushR_held' (L.length + 1) ⟨s, k, [], L⟩
          have fall := flushS_all (DOk w4) (fun s i d hi h => DOk.stamp w4 s i d hi h) s k L HIT4.out
          have fsame := sameC_flushR (L.length + 1) ⟨s, k, [], L⟩
          exact ⟨(flushS s k L).s, (flushS s k L).k, turns, (flushS s k L).L, ticks, (flushS s k L).out, rfl, Int.le_refl _, by omega,
            ⟨owns_base (owns_zero HV.out) (fun b hb => Nat.le_trans bnd4 (HV.out.lt b hb).1), HS5.out, fun x hx => (HIT4.out x (fm1 x hx)).hot HF5.out, by omega, fun e he => (fall e he).hot HF5.out, FI.ok, FI.nxt, FI.rate, FI.burst, by have := FI.held; omega,
             HCN.out.same (by omega) ⟨Int.le_of_eq fd1.symm, Int.le_trans (Int.le_of_eq fd1) (Int.le_add_one (Int.le_refl _))⟩ ⟨fd2, fd3⟩ fsame, Hot.blk HNX4.out (by unfold hotT; decide) HF5.out, Hot.new HF4.out hB HF5.out⟩⟩
        · -- heard
          by_cases hwy : wy < 0 ∨ 2 ≤ wy
          · go_wp2_with (go_at_call 10; refine (mpath_Heard_no _ _ _ _ hwy).mono ?_; rintro e w5 ⟨rfl, rfl⟩)
            go_meet
            exact ⟨⟨s, k, turns, L, ticks, [], rfl, Int.le_refl _, by omega, ⟨World.ownsRow_nil _ _ _ _, HS4.out, HIT4.out, hlen, by simp, trivial, rfl, rfl, rfl, by simp [sizeAll], HCN.out.same (by omega) (by omega) (by omega) (SameC.refl _), HNX4.out, HF4.out⟩⟩, HZ4.out⟩
          · obtain ⟨j, rfl⟩ : ∃ j : Nat, wy = (j : Int) := ⟨wy.toNat, by omega⟩
            have hj2 : j < 2 := by omega
            have PH := Lib.hid (mpath_Heard_ok w4 bs s k room turns L HS4.out j hj2 th i (by omega) (HCN.out.way j))
            clear hwy
            go_wp2_with (go_at_call 10; refine PH.out.mono ?_; rintro e w5 ⟨rfl, hs5, hf5⟩; have HS5 := Lib.hid hs5; have HF5 := Lib.hid hf5; clear hs5 hf5)
            go_meet
            exact ⟨⟨_, k, turns, L, ticks, [], rfl, Int.le_refl _, by omega, ⟨World.ownsRow_nil _ _ _ _, HS5.out, fun x hx => (HIT4.out x hx).hot HF5.out, hlen, by simp, trivial, nx_setWay _ _ _ (heardS_next _ _).1, rfl, rfl, by simp [sizeAll], HCN.out.heard j th, Hot.blk HNX4.out (by unfold hotT; decide) HF5.out, Hot.new HF4.out hB HF5.out⟩⟩, Hot.blk HZ4.out (by unfold hotT; decide) HF5.out⟩
        · go_wp2_with fail
          go_meet
          exact ⟨⟨s, k, turns, L, ticks, [], rfl, Int.le_refl _, by omega, ⟨World.ownsRow_nil _ _ _ _, HS4.out, HIT4.out, hlen, by simp, trivial, rfl, rfl, rfl, by simp [sizeAll], HCN.out.same (by omega) (by omega) (by omega) (SameC.refl _), HNX4.out, HF4.out⟩⟩, HZ4.out⟩
      case rest =>
        obtain ⟨⟨s', k', turns', L', ticks', outs, rfl, htk0, htk1, haf⟩, hzb⟩ := hcut
        have hcap := row_form2 haf.row
        obtain ⟨A, cA, rfl, hle, hcA, hA⟩ := hcap
        have HAF := Lib.hid haf; have HZ5 := Lib.hid hzb; have HAA := Lib.hid hA
        obtain ⟨m, hm⟩ : ∃ m, m = outs.length := ⟨_, rfl⟩
        rw [← hm] at hle HAA ⊢
        have HM := Lib.hid hm
        clear haf hzb hA hm HS4 HIT4 HNX4 HF4 HZ4 HQD HD4 HO4 q0 q1 q13 q14 q15
        go_upto_block 5 with fail
        have hszb := sizeAll_nonneg outs
        have hbnd : bytes + sizeAll outs ≤ 1000000000 := by
          have h1 := HBUD.out
          have h2 := HAF.out.held
          have h3 := HAF.out.sender.okb.held0
          have h4 : rate * ticks' ≤ 100000 * ticks' := Int.mul_le_mul_of_nonneg_right g2 (by omega)
          omega
        go_cut [7] (fun v7 wx => v7 = .int .i64 (bytes + sizeAll outs) ∧ Held w1.heap.size w bs bn bz room [.int .i64 rate, .int .i64 burst, .int .i64 room] s' k' turns' L' (.slice A m cA) outs (bumpAll (nx s) outs) wx)
        case first =>
          have hH0 : Held w1.heap.size w bs bn bz room [.int .i64 rate, .int .i64 burst, .int .i64 room] s' k' turns' L' (.slice A m cA) outs (nx s) wc := ⟨by rw [HM.out]; exact HAF.out.row, HAF.out.sender, HAF.out.items, HAF.out.all, HAF.out.next, HZ5.out, HAF.out.fr⟩
          have HH0 := Lib.hid hH0
          clear hH0
          go_wp2_with fail
          go_loopw [14, 7] (fun v14 v7 wr => ∃ j : Nat, v14 = .int .i64 j ∧ j ≤ m ∧ v7 = .int .i64 (bytes + sizeAll (outs.take j)) ∧ Held w1.heap.size w bs bn bz room [.int .i64 rate, .int .i64 burst, .int .i64 room] s' k' turns' L' (.slice A m cA) outs (bumpAll (nx s) (outs.take j)) wr) (fun v _ _ => m - (intOf v).toNat)
          case atStart => exact ⟨0, rfl, Nat.zero_le _, by simp [sizeAll], HH0.out⟩
          case round =>
            clear HH0
            obtain ⟨j, rfl, hj, rfl, hh⟩ := hrel
            have j0 : (0 : Int) ≤ j := by omega
            by_cases hjm : j < m
            · have hjo : j < outs.length := by rw [← HM.out]; exact hjm
              have htk : outs.take (j + 1) = outs.take j ++ [outs[j]] := List.take_succ_eq_append_getElem hjo
              have hsplit : outs = outs.take j ++ (outs[j] :: outs.drop (j + 1)) := by
                rw [← List.drop_eq_getElem_cons hjo, List.take_append_drop]
              have hsq := HAF.out.ok
              rw [hsplit, seqOk_append] at hsq
              obtain ⟨hq1, hp2, hseq, hpath, hq2⟩ := hsq
              clear hq1 hq2
              have hsz1 : sizeAll (outs.take (j + 1)) = sizeAll (outs.take j) + sizeD outs[j].d := by rw [htk, sizeAll_append]; simp [sizeAll]
              have hbm1 : bumpAll (nx s) (outs.take (j + 1)) = bump (bumpAll (nx s) (outs.take j)) outs[j].way := by rw [htk, bumpAll_append]; rfl
              have hszle : sizeAll (outs.take j) + sizeD outs[j].d ≤ sizeAll outs := by
                have h1 : sizeAll outs = sizeAll (outs.take j ++ (outs[j] :: outs.drop (j + 1))) := by rw [← hsplit]
                rw [sizeAll_append, sizeAll_cons] at h1
                have := sizeAll_nonneg (outs.drop (j + 1))
                omega
              have hsz0 := sizeAll_nonneg (outs.take j)
              obtain ⟨g, rfl, hg⟩ : ∃ g, A = some ⟨g, 0, none⟩ ∧ ∃ sp, Blk wr g 38 (flatSent outs ++ sp) := by
                obtain ⟨A', c', he, _, _, hA'⟩ := row_form2 hh.row
                obtain ⟨g, sp, rfl, hb⟩ := hA' (by omega)
                simp only [Value.slice.injEq] at he
                exact ⟨g, he.1, sp, hb⟩
              obtain ⟨sp, hg⟩ := hg
              have hrd : ∀ W : World, Fr (fun _ => False) wr W → Reads W g (j * 12) (outs[j]).cells := fun W hW => Reads.of_blk (hg.keep hW (fun e => e)) _ _ (fun q hq => flatSent_get outs sp j q hjo hq)
              have hall := hh.all _ (List.getElem_mem hjo)
              obtain ⟨nn, hnn⟩ : ∃ nn, nn = bumpAll (nx s) (outs.take j) := ⟨_, rfl⟩
              obtain ⟨sz, hsz⟩ : ∃ sz, sz = sizeAll (outs.take j) := ⟨_, rfl⟩
              rw [← hnn] at hh hbm1 hseq
              rw [← hsz] at hsz1 hszle hsz0 ⊢
              have HSZ1 := Lib.hid hsz1; have HBM1 := Lib.hid hbm1
              generalize outs[j] = e at hp2 hseq hpath hrd hall HSZ1 HBM1 hszle
              obtain ⟨p, dd⟩ := e
              simp only at hp2 hseq hpath hall HSZ1 HBM1 hszle
              have hszd : sizeD dd = ((33 + dd.dl : Nat) : Int) := rfl
              rw [hszd] at HSZ1 hszle
              have hddl := hall.small
              have HRD : Hid (∀ W : World, Fr (fun _ => False) wr W → W.cell? ⟨g, j * 12, none⟩ = some (.int .i64 p) ∧ W.cell? ⟨g, j * 12 + 3, none⟩ = some (.int .u32 (nget nn p)) ∧ W.cell? ⟨g, j * 12 + 4, none⟩ = some (.int .i64 p) ∧ Reads W g (j * 12 + 1) dd.cells) := Lib.hid (fun W hW => by
                have h := hrd W hW
                refine ⟨h 0 (by show 0 < 12; omega), ?_, ?_, ?_⟩
                · rw [← hseq]; exact h 3 (by show 3 < 12; omega)
                · rw [← hpath]; exact h 4 (by show 4 < 12; omega)
                · intro q hq
                  have hq' : q < 11 := hq
                  have := h (1 + q) (by show 1 + q < 12; omega)
                  rw [← Nat.add_assoc] at this
                  rw [this]
                  show (Value.int .i64 _ :: dd.cells)[1 + q]? = _
                  rw [Nat.add_comm, List.getElem?_cons_succ])
              have p0 : (0 : Int) ≤ p := by omega
              have p1 : (p : Int) < 2 := by omega
              have d1 : decide ((p : Int) < 0) = false := decide_eq_false (by omega)
              have d2 : decide (1 < (p : Int)) = false := decide_eq_false (by omega)
              have jm : (j : Int) < m := by omega
              have kway : wr.cell? ⟨g, j * 12, none⟩ = some (.int .i64 p) := (HRD.out wr (Fr.refl _ _)).1
              have HH := Lib.hid hh; have HALL := Lib.hid hall
              clear htk hsplit hseq hpath hsz1 hbm1 hrd hall hg hnn hsz hszd hh hjo
              go_upto_region 32 with fail
              obtain ⟨C, hC⟩ : ∃ C : World → Prop, ∀ w', C w' ↔ (w'.cell? ⟨g, j * 12 + 3, none⟩ = some (.int .u32 (nget nn p)) ∧ w'.cell? ⟨bn, p, none⟩ = some (.int .u32 (nget nn p)) ∧ w'.cell? ⟨g, j * 12 + 4, none⟩ = some (.int .i64 p) ∧ Reads w' g (j * 12 + 1) dd.cells) := ⟨_, fun _ => Iff.rfl⟩
              have HCC := Lib.hid hC; clear hC
              have mkC : ∀ W : World, Fr (fun _ => False) wr W → C W := fun W hW => (HCC.out _).2 ⟨(HRD.out W hW).2.1, next_cell (HH.out.next.keep hW (fun e => e)) p hp2, (HRD.out W hW).2.2.1, (HRD.out W hW).2.2.2⟩
              have MKC := Lib.hid mkC; clear mkC
              refine wp_region_T (by kernel_rfl) C (fun k => [0, 0, 0, 0, 0, 0, 0, 0, 0, 0, 0, 0, 0, 0, 0, 0, 0, 0, 0, 0, 0, 0, 0, 0, 0, 0, 0, 0, 0, 0, 0, 0, 0, 0, 2, 0, 0].getD k 0) (by kernel_rfl) (MKC.out _ (Fr.refl _ _).drew) ?_
              iterate 12 (refine wpT_step (fun K hK => ?_); go_simp; refine ⟨_, fun _ _ => rfl, hK _ _ ?_⟩; clear hK K)
              refine wpT_load1Q rfl rfl 30 _ rfl g (j * 12 + 3) rfl _ (fun w' hw' => ((HCC.out _).1 hw').1) Try.underlying30 rfl ?_
              iterate 2 (refine wpT_step (fun K hK => ?_); go_simp; refine ⟨_, fun _ _ => rfl, hK _ _ ?_⟩; clear hK K)
              refine wpT_load1Q rfl rfl 30 _ rfl bn p rfl _ (fun w' hw' => ((HCC.out _).1 hw').2.1) Try.underlying30 rfl ?_
              iterate 8 (refine wpT_step (fun K hK => ?_); go_simp; refine ⟨_, fun _ _ => rfl, hK _ _ ?_⟩; clear hK K)
              refine wpT_load1Q rfl rfl 3 _ rfl g (j * 12 + 4) rfl _ (fun w' hw' => ((HCC.out _).1 hw').2.2.1) Try.underlying3 rfl ?_
              iterate 8 (refine wpT_step (fun K hK => ?_); go_simp; refine ⟨_, fun _ _ => rfl, hK _ _ ?_⟩; clear hK K)
              refine wpT_load_aggQ rfl rfl 34 _ rfl g (j * 12 + 1) rfl dd.cells (fun w' hw' => ((HCC.out _).1 hw').2.2.2) Try.underlying34 rfl sz_dg ?_
              have HHD := Lib.hid (HH.out.no (Fr.refl _ wr).drew)
              refine wpT_loud rfl rfl ?_
              go_simp
              obtain ⟨dl, hdl, hck⟩ := (HALL.out.no (Fr.refl _ wr).drew).dataAt
              have HCK := Lib.hid hck
              refine (wire_Check _ dd dl hdl).mono ?_
              rintro e w5 ⟨rfl, hf5⟩
              have fr5 := (Fr.refl (fun _ => False) wr).drew.trans hf5
              rw [HCK.out]
              refine ⟨MKC.out _ fr5, ?_⟩
              iterate 2 (refine wpT_step (fun K hK => ?_); go_simp; refine ⟨_, fun _ _ => rfl, hK _ _ ?_⟩; clear hK K)
              refine wpT_nil ?_
              have HH5 := Lib.hid (HH.out.no fr5)
              have kn5 : w5.cell? ⟨bn, p, none⟩ = some (.int .u32 (nget nn p)) := next_cell HH5.out.next p hp2
              have fn5 : w5.frozen? ⟨bn, p, none⟩ = false := HH5.out.next.free _
              have HRD5 : Hid (Reads w5 g (j * 12 + 1) dd.cells) := Lib.hid (HRD.out w5 fr5).2.2.2
              have HS6 := Lib.hid (next_set HH5.out.next p hp2)
              have HF6 := Lib.hid ((Fr.refl (· = bn) w5).setCell ⟨bn, p, none⟩ (.int .u32 (IntKind.u32.wrap (nget nn p + 1))) (.inl rfl))
              have hne : g ≠ bn := by
                intro e
                subst e
                exact owns_ne HH5.out.row HH5.out.next (by decide) g rfl rfl
              have HRD6 : Hid (Reads (w5.setCell ⟨bn, p, none⟩ (.int .u32 (IntKind.u32.wrap (nget nn p + 1)))) g (j * 12 + 1) dd.cells) := Lib.hid (fun q hq => by
                rw [World.cell?_setCell_other _ _ _ _ (by intro e; injection e with e1; exact hne e1.symm)]
                exact HRD5.out q hq)
              rw [IntKind.wrap_u32] at HS6 HF6 HRD6
              clear kway HCC MKC HRD HHD hck hdl HCK hf5 fr5
              go_upto_region 35 with fail
              obtain ⟨w6, hw6⟩ : ∃ w6, w6 = w5.setCell ⟨bn, p, none⟩ (.int .u32 ((nget nn p + 1) % 4294967296)) := ⟨_, rfl⟩
              rw [← hw6] at HS6 HF6 HRD6 ⊢
              have HH6 := Lib.hid (HH5.out.count bnd0 HS6.out HF6.out)
              clear hw6 kn5 fn5 HS6 HF6 HRD5
              go_upto_region 30 with (first
                | (refine wpList_load_agg rfl 34 (.tmp 173) rfl g (j * 12 + 1) rfl dd.cells HRD6.out Try.underlying34 rfl sz_dg ?_)
                | (go_at_call 12; refine (wire_Size w6 dd (by omega)).mono ?_; rintro e w7 ⟨rfl, hf7⟩; have HH7 := Lib.hid (HH6.out.no hf7); clear hf7))
              go_wp2
              go_roundw
              case rel => exact ⟨j + 1, by go_num, by omega, by rw [HSZ1.out]; congr 1; omega, by rw [HBM1.out]; exact HH7.out⟩
              case measure => simp [intOf]; omega
            · obtain rfl : m = j := by omega
              have HHE := Lib.hid hh
              clear hh
              rw [HM.out, List.take_length] at HHE ⊢
              rw [← HM.out] at HHE ⊢
              go_wp2_with fail
              go_meet
              exact ⟨rfl, HHE.out⟩
        case rest =>
          obtain ⟨rfl, hh⟩ := hcut
          have HH := Lib.hid hh
          have hprod : rate * ticks' ≤ 100000 * ticks' := Int.mul_le_mul_of_nonneg_right g2 (by omega)
          have hprod0 : 0 ≤ rate * ticks' := Int.mul_nonneg (by omega) (by omega)
          have hbudget : bytes + sizeAll outs + k'.held ≤ burst + rate * ticks' := by
            have h1 := HBUD.out
            have h2 := HAF.out.held
            omega
          have hheld0 := HAF.out.sender.okb.held0
          have hl5 := HAF.out.len
          have b0' : 0 ≤ bytes + sizeAll outs := by omega
          clear hh
          obtain ⟨by', hby⟩ : ∃ x, x = bytes + sizeAll outs := ⟨_, rfl⟩
          obtain ⟨pr, hpr⟩ : ∃ x, x = rate * ticks' := ⟨_, rfl⟩
          rw [← hby] at hbudget b0' hbnd ⊢
          rw [← hpr] at hprod hprod0 hbudget
          have HPR := Lib.hid hpr
          clear hby hpr
          go_upto_region 36 with fail
          have HZB := Lib.hid HH.out.zb
          obtain ⟨C, hC⟩ : ∃ C : World → Prop, ∀ w', C w' ↔ (w'.cell? ⟨bz, 1, none⟩ = some (.int .i64 burst) ∧ w'.cell? ⟨bz, 0, none⟩ = some (.int .i64 rate) ∧ w'.cell? ⟨bz, 2, none⟩ = some (.int .i64 room)) := ⟨_, fun _ => Iff.rfl⟩
          have HCC := Lib.hid hC; clear hC
          have c0 : C wc.drew := (HCC.out _).2 ⟨HZB.out.drew.cell 1, HZB.out.drew.cell 0, HZB.out.drew.cell 2⟩
          have C0 := Lib.hid c0
          clear c0
          have wm : IntKind.i64.wrap (rate * ticks') = pr := by rw [← HPR.out]; exact IntWalk.i64_in _ ⟨by omega, by omega⟩
          have wa : IntKind.i64.wrap (burst + pr) = burst + pr := IntWalk.i64_in _ ⟨by omega, by omega⟩
          have dg : decide (burst + pr < by') = false := decide_eq_false (by omega)
          have dr : decide (room < (L'.length : Int)) = false := decide_eq_false (by omega)
          have HBG := Lib.hid hbudget; have HB0 := Lib.hid b0'; have HTK := Lib.hid (show ticks' ≤ 100 * ((i + 1 : Nat) : Int) by omega); have HT0 : 0 ≤ ticks' := by omega
          clear hprod hprod0 hbudget hheld0 hl5 b0' hszb htk0 htk1 hle hcA ht0 ht1
          refine wp_region_T (by kernel_rfl) C (fun k => [0, 0, 0, 0, 0, 0, 0, 0, 0, 0, 0, 2, 0, 0, 0, 0].getD k 0) (by kernel_rfl) C0.out ?_
          iterate 2 (refine wpT_step (fun K hK => ?_); go_simp; refine ⟨_, fun _ _ => rfl, hK _ _ ?_⟩; clear hK K)
          refine wpT_load1Q rfl rfl 3 _ rfl bz 1 rfl _ (fun w' hw' => ((HCC.out _).1 hw').1) Try.underlying3 rfl ?_
          iterate 1 (refine wpT_step (fun K hK => ?_); go_simp; refine ⟨_, fun _ _ => rfl, hK _ _ ?_⟩; clear hK K)
          refine wpT_load1Q rfl rfl 3 _ rfl bz 0 rfl _ (fun w' hw' => ((HCC.out _).1 hw').2.1) Try.underlying3 rfl ?_
          iterate 6 (refine wpT_step (fun K hK => ?_); go_simp; refine ⟨_, fun _ _ => rfl, hK _ _ ?_⟩; clear hK K)
          refine wpT_loud rfl rfl ?_
          go_simp
          refine (mpath_Waiting _ bs s' k' room turns' L' (HH.out.sender.keep (Fr.refl _ wc).drew)).mono ?_
          rintro e w' ⟨rfl, rfl⟩
          refine ⟨C0.out, ?_⟩
          iterate 1 (refine wpT_step (fun K hK => ?_); go_simp; refine ⟨_, fun _ _ => rfl, hK _ _ ?_⟩; clear hK K)
          refine wpT_load1Q rfl rfl 3 _ rfl bz 2 rfl _ (fun w' hw' => ((HCC.out _).1 hw').2.2) Try.underlying3 rfl ?_
          iterate 2 (refine wpT_step (fun K hK => ?_); go_simp; refine ⟨_, fun _ _ => rfl, hK _ _ ?_⟩; clear hK K)
          refine wpT_nil ?_
          have HHD := Lib.hid (HH.out.no (Fr.refl _ wc).drew)
          clear HH HZB HCC C0 wm wa dg dr
          generalize wc.drew = w9 at HHD ⊢
          have hBL : BLoop w1.heap.size w bs bn rate burst room (i + 1) (.int .i64 by') (.int .i64 ticks') w9 :=
            ⟨s', k', turns', L', by', ticks', rfl, rfl, HHD.out.sender, HHD.out.items, HAF.out.len, by rw [HAF.out.nxt]; exact HHD.out.next, HAF.out.rate.trans HKR.out, HAF.out.burst.trans HKB.out, by rw [← HPR.out]; exact HBG.out, HB0.out, by omega, by have := HTK.out; omega, HAF.out.cnt, HHD.out.fr⟩
          have HBL := Lib.hid hBL
          clear hBL
          go_wp2
          go_roundw
          case rel => exact ⟨i + 1, by go_num, by omega, by omega, HBL.out, HHD.out.zb⟩
          case measure => simp [intOf]; omega
    · have HF := Lib.hid hf
      clear hs hit hlen hnx hkr hkb hbud hcnt hf hzb hb0
      have hgo' : N ≤ i ∨ (i < N ∧ i = 60) := by omega
      clear hgo
      rcases hgo' with h | ⟨h, rfl⟩
      all_goals
        go_wp2
        go_ret
        exact ⟨rfl, HF.out⟩

end Go.Proofs.Ytppnaeedangndaa
