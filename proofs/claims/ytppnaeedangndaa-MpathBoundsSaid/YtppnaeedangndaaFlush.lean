/- What goes at once. -/
import Derived.Test.YtppnaeedangndaaFlushS
import Derived.Deep.DeepCutAuto
import Derived.Deep.CutBlock
namespace Go.Proofs.Ytppnaeedangndaa
open Go.RowKit Go.Mm Go.Rg

theorem flushR_nil (n : Nat) (f : FlS) (h : f.L.length = 0) : flushR n f = f := by
  cases n with
  | zero => rfl
  | succ n => unfold flushR; rw [if_pos h]

theorem flushR_go (n : Nat) (f : FlS) (h : 0 < f.L.length) (hg : goes f = true) : flushR (n + 1) f = flushR n (sent f) := by
  rw [flushR, if_neg (by omega), if_pos hg]

theorem flushR_held (n : Nat) (f : FlS) (h : 0 < f.L.length) (hg : goes f = false) : flushR (n + 1) f = { f with s := { f.s with held := f.s.held + 1 } } := by
  rw [flushR, if_neg (by omega), if_neg (by simp [hg])]

/-- In the midst of sending one by its ways. -/
def SL (B : Nat) (w : World) (bs : Nat) (t : SendS) (out : List SentS) (W : List Nat) (d : DG) (k : BuckS) (room turns : Int) (M : List It) (bd g : Nat) (cs : List Value) (j : Nat) (v : Value) (wr : World) : Prop :=
  wr.ownsRow w.heap.size 38 12 v (sendAll t out (W.take j) d).2.length (flatSent (sendAll t out (W.take j) d).2) ∧ IsS B wr bs (sendAll t out (W.take j) d).1 k room turns M ∧ Fr (Hot B w) w wr ∧
    Blk wr bd 34 d.cells ∧ Blk wr g 3 (ints W ++ cs)

def LoopF (B : Nat) (w : World) (bs : Nat) (s : SendS) (k : BuckS) (room turns : Int) (L : List It) (n : Nat) (v : Value) (wr : World) : Prop :=
  ∃ f : FlS, f.L.length = n ∧ flushR (n + 1) f = flushS s k L ∧ wr.ownsRow w.heap.size 38 12 v f.out.length (flatSent f.out) ∧ IsS B wr bs f.s f.k room turns f.L ∧ Fr (Hot B w) w wr ∧
    (∀ x ∈ f.L, x.d.dl ≤ 1200) ∧ f.s.held = s.held ∧ f.out.length + 2 * n ≤ 512

set_option maxRecDepth 100000 in
set_option maxHeartbeats 3200000 in
theorem mpath_Flush (w : World) (bs : Nat) (s : SendS) (k : BuckS) (room turns : Int) (L : List It) {B : Nat} (h : IsS B w bs s k room turns L) (hm : L.length ≤ 256) (hdl : ∀ x ∈ L, x.d.dl ≤ 1200)
    (hh : 0 ≤ s.held ∧ s.held ≤ 4611686018427387904) :
    Calls Try.prog 8 #[.pointer (some ⟨bs, 0, none⟩)] w fun e w' => ∃ v, e = .returned v ∧ w'.ownsRow w.heap.size 38 12 v (flushS s k L).out.length (flatSent (flushS s k L).out) ∧
      IsS B w' bs (flushS s k L).s (flushS s k L).k room turns (flushS s k L).L ∧ Fr (Hot B w) w w' := by
  have H0 : Hid (LoopF B w bs s k room turns L L.length (.slice none 0 0) w) := Lib.hid ⟨⟨s, k, [], L⟩, rfl, rfl, ⟨rfl, .inl ⟨rfl, rfl⟩⟩, h, Fr.refl _ _, hdl, rfl, by simp; omega⟩
  obtain ⟨hh0, hh1⟩ := hh
  clear h hdl hm
  go_enter Try.func8, Try.ntmps8
  go_wp2
  go_loopg [3] L.length (fun n v wr => LoopF B w bs s k room turns L n v wr)
  case atStart => exact H0.out
  case round =>
    clear H0
    obtain ⟨⟨t, kk, out, M⟩, hlen, hfl, hrow, hs, hot, hdl, hheld, hout⟩ := hrel
    simp only at hlen hfl hrow hs hdl hheld hout
    have bnd : w.heap.size ≤ wr.heap.size := hot.size
    have HF := Lib.hid hfl; have HR := Lib.hid hrow; have HS := Lib.hid hs; have HT := Lib.hid hot; have HD := Lib.hid hdl; have HH := Lib.hid hheld
    have k31 : wr.cell? ⟨bs, 31, none⟩ = some (.pointer (some ⟨t.qu, 0, none⟩)) := SendS.rest_cell hs.blk 1 (by decide)
    clear hfl hrow hs hot hdl hheld
    by_cases hz : M.length = 0
    · obtain rfl : M = [] := List.length_eq_zero_iff.1 hz
      go_upto_region 3 with (first
        | (go_at_call 17; refine (prio_Peek_none wr t.qu room turns HS.out.queue).mono ?_; rintro e w1 ⟨rfl, hf1⟩
           have HS1 := Lib.hid (HS.out.keep hf1); have HT1 := Lib.hid (Hot.then HT.out (Hot.no hf1)); have HR1 := Lib.hid (Fr.owns HR.out hf1 (fun _ _ e => e)))
        | (refine wpList_store_agg rfl 34 (.tmp 4) (.tmp 17) rfl w1.heap.size 0 rfl zDG rfl _ zDG (Blk.new w1 _ zDG) (by simp [zDG]) (by decide) sz_dg ?_
           intro w2 hd2 hf2))
      have fr12 : Fr (fun _ => False) w1 w2 := ((Fr.refl _ w1).alloc _).then hf2 (fun b hb e => by omega)
      go_wp2
      go_ret
      have hfl := HF.out
      rw [flushR_nil _ _ rfl] at hfl
      rw [← hfl]
      exact ⟨_, rfl, Fr.owns HR1.out fr12 (fun _ _ e => e), HS1.out.keep fr12, Hot.then HT1.out (Hot.no fr12)⟩
    · have hpos : 0 < M.length := by omega
      have HP := Lib.hid (prio_Peek_some wr t.qu room turns M HS.out.queue hpos)
      have HX : Hid ((Hp.nth M 0).d.dl ≤ 1200) := Lib.hid (HD.out _ (Hp.nth_mem M 0 hpos))
      obtain ⟨x, hx⟩ : ∃ x, x = Hp.nth M 0 := ⟨_, rfl⟩
      rw [← hx] at HP HX
      have HXE := Lib.hid hx
      obtain ⟨n, hn⟩ : ∃ n : Nat, n = 33 + x.d.dl := ⟨_, rfl⟩
      have hn1 : n ≤ 1233 := by have := HX.out; omega
      have HN := Lib.hid hn
      clear hx hn
      go_upto_region 5 with (first
        | (go_at_call 17; refine HP.out.mono ?_; rintro e w1 ⟨rfl, hf1⟩
           have HS1 := Lib.hid (HS.out.keep hf1); have HT1 := Lib.hid (Hot.then HT.out (Hot.no hf1)); have HR1 := Lib.hid (Fr.owns HR.out hf1 (fun _ _ e => e)))
        | (refine wpList_store_agg rfl 34 (.tmp 4) (.tmp 17) rfl w1.heap.size 0 rfl x.d.cells rfl _ zDG (Blk.new w1 _ zDG) (by simp [zDG, DG.length_cells]) (DG.one _) sz_dg ?_
           intro w2 hd2 hf2
           rw [splice_whole _ _ (by simp [zDG, DG.length_cells])] at hd2))
      have fr12 : Fr (fun _ => False) w1 w2 := ((Fr.refl _ w1).alloc _).then hf2 (fun b hb e => by omega)
      have HS2 := Lib.hid (HS1.out.keep fr12); have HT2 := Lib.hid (Hot.then HT1.out (Hot.no fr12)); have HR2 := Lib.hid (Fr.owns HR1.out fr12 (fun _ _ e => e))
      obtain ⟨bd, hbd⟩ : ∃ bd, bd = w1.heap.size := ⟨_, rfl⟩
      rw [← hbd] at hd2 ⊢
      clear HS1 HT1 HR1 HS HT HR HP hf1 hf2 fr12 k31 hbd
      go_upto_block 2 with (first
        | (refine wpList_load_agg rfl 34 (.tmp 4) rfl bd 0 rfl x.d.cells (Reads.whole hd2) Try.underlying34 rfl sz_dg ?_)
        | (go_at_call 12; refine (wire_Size w2 x.d (by have := HX.out; omega)).mono ?_; rintro e w3 ⟨rfl, hf3⟩; rw [← HN.out]
           have hd3 := hd2.keep hf3 (fun e => e)
           have HS3 := Lib.hid (HS2.out.keep hf3); have HT3 := Lib.hid (Hot.then HT2.out (Hot.no hf3)); have HR3 := Lib.hid (Fr.owns HR2.out hf3 (fun _ _ e => e)))
        | (go_at_call 18; refine (mpath_Choose w3 bs t HS3.out.blk HS3.out.ok0 HS3.out.ok1 x.rank).mono ?_; rintro e w4 ⟨g, cap, cs, rfl, hc1, hc2, hg4, hf4⟩
           have hd4 := hd3.keep hf4 (fun e => e)
           have HS4 := Lib.hid (HS3.out.keep hf4); have HT4 := Lib.hid (Hot.then HT3.out (Hot.no hf4)); have HR4 := Lib.hid (Fr.owns HR3.out hf4 (fun _ _ e => e))))
      obtain ⟨W, hWW⟩ : ∃ W, W = waysS t kk x := ⟨_, rfl⟩
      have WE := Lib.hid hWW
      have WL := Lib.hid (hWW ▸ waysS_len t kk x)
      clear hWW
      have k30 : w4.cell? ⟨bs, 30, none⟩ = some (.pointer (some ⟨t.bk, 0, none⟩)) := SendS.rest_cell HS4.out.blk 0 (by decide)
      clear HR2 HR3 HS2 HS3 HT2 HT3 hd2 hd3 hf3 hf4
      go_cut [8, 27] (fun v _ wx => w4 = wx ∧ ∃ c cap' cs', v = .slice (some ⟨g, 0, none⟩) c cap' ∧ W.length = c ∧ (c = 1 ∨ c = 2) ∧ Blk w4 g 3 (ints W ++ cs'))
      case first =>
        rcases chooseS_len t x.rank with ⟨f, hf, hW⟩ | ⟨f, hf, hW⟩
        · have e : W = [f] := by rw [WE.out]; unfold waysS; rw [hW]; simp
          have E := Lib.hid e
          rw [hW] at hc1 hg4 ⊢
          clear hW e
          simp only [List.length_cons, List.length_nil] at hc1 ⊢
          go_wp2_with fail
          refine wp_loop_rounds 2 ?_
          rw [rounds_succ]
          go_wp2
          go_meet
          rw [E.out]
          exact ⟨rfl, _, _, _, rfl, rfl, .inl rfl, hg4⟩
        · have e : W = if mayB kk ((n : Int) * 2) = true then [f, 1 - f] else [f] := by
            rw [WE.out]
            unfold waysS costS
            rw [hW, HN.out]
            cases mayB kk (((33 + x.d.dl : Nat) : Int) * 2) <;> simp
          have PM := Lib.hid (pacer_May w4 t.bk 76 kk HS4.out.bucket ((n : Int) * 2))
          obtain ⟨m, hm⟩ : ∃ m, m = mayB kk ((n : Int) * 2) := ⟨_, rfl⟩
          rw [← hm] at PM e
          have E := Lib.hid e
          rw [hW] at hc1 hg4 ⊢
          clear hW e hm
          simp only [List.length_cons, List.length_nil] at hc1 ⊢
          go_wp2_with fail
          refine wp_loop_rounds 2 ?_
          rw [rounds_succ]
          cases m
          · go_wp2_with (go_at_call 19; refine PM.out.mono ?_; rintro e w5 ⟨rfl, rfl⟩)
            rw [rounds_succ]
            go_wp2
            go_meet
            rw [E.out]
            exact ⟨rfl, _, cap, .int .i64 (1 - f : Nat) :: cs, rfl, rfl, .inl rfl, hg4⟩
          · go_wp2_with (go_at_call 19; refine PM.out.mono ?_; rintro e w5 ⟨rfl, rfl⟩)
            go_meet
            rw [E.out]
            exact ⟨rfl, _, cap, cs, rfl, rfl, .inr rfl, hg4⟩
      case rest =>
        obtain ⟨rfl, c, cap', cs', rfl, hcl, hc12, hg⟩ := hcut
        have CL := Lib.hid hcl
        obtain ⟨z, hz'⟩ : ∃ z : Int, z = costS x c := ⟨_, rfl⟩
        have EZ : Hid ((n : Int) * (c : Int) = z) := Lib.hid (by rw [hz', HN.out]; rfl)
        have ez1 : c = 1 → (n : Int) = z := fun e => by rw [← EZ.out, e]; simp
        have ez2 : c = 2 → (n : Int) * 2 = z := fun e => by rw [← EZ.out, e]; rfl
        have EZ1 := Lib.hid ez1; have EZ2 := Lib.hid ez2
        have PT := pacer_Take w4 t.bk 76 kk HS4.out.bucket HS4.out.okb z
        have PTOK := Lib.hid (takeB_ok kk z HS4.out.okb)
        obtain ⟨m, hm⟩ : ∃ m, m = mayB kk z := ⟨_, rfl⟩
        rw [← hm] at PT
        have HPT := Lib.hid PT
        have HG : Hid (goes ⟨t, kk, out, M⟩ = m) := Lib.hid (by
          show mayB kk (costS (Hp.nth M 0) (waysS t kk (Hp.nth M 0)).length) = m
          rw [← HXE.out, ← WE.out, CL.out, ← hz', hm])
        have HSENT : Hid (sent ⟨t, kk, out, M⟩ = ⟨(sendAll t out W x.d).1, takeB kk z, (sendAll t out W x.d).2, Hp.take ahead M 0⟩) := Lib.hid (by
          show FlS.mk _ _ _ _ = _
          simp only
          rw [← HXE.out, ← WE.out, CL.out, ← hz'])
        have HM := Lib.hid hm
        have HZ := Lib.hid hz'
        have bnd4 : w.heap.size ≤ w4.heap.size := HT4.out.size
        have t0 : 0 ≤ t.held := by rw [HH.out]; exact hh0
        have t1 : t.held ≤ 4611686018427387904 := by rw [HH.out]; exact hh1
        clear PT hm hz' hcl ez1 ez2 EZ hc1 hc2 hg4
        rcases hc12 with rfl | rfl
        all_goals
          cases m
          · -- not enough bytes
            go_upto_region 10 with (go_at_call 20; (first | rw [EZ2.out rfl] | rw [EZ1.out rfl]); refine HPT.out.mono ?_; rintro e w5 ⟨rfl, hk5, hf5⟩)
            obtain ⟨hs5, hot5⟩ := IsS.bucketF HS4.out hk5 PTOK.out hf5
            have et : takeB kk z = kk := by unfold takeB; rw [← HM.out]; simp
            rw [et] at hs5
            have HR5 := Lib.hid (Fr.owns HR4.out hf5 (owns_ne HR4.out HS4.out.bucket (by decide)))
            have HT5 := Lib.hid (Hot.then HT4.out hot5)
            have k35 : w5.cell? ⟨bs, 35, none⟩ = some (.int .i64 t.held) := SendS.rest_cell hs5.blk 5 (by decide)
            have f35 : w5.frozen? ⟨bs, 35, none⟩ = false := hs5.blk.free _
            have HS5 := Lib.hid hs5
            clear hs5 hot5 hk5 hf5 et
            go_wp2
            go_ret
            have hfl := HF.out
            rw [flushR_held _ ⟨t, kk, out, M⟩ hpos HG.out] at hfl
            rw [← hfl]
            have fr6 : Fr (· = bs) w5 (w5.setCell ⟨bs, 35, none⟩ (.int .i64 (t.held + 1))) := (Fr.refl _ _).setCell _ _ (.inl rfl)
            obtain ⟨hs6, hot6⟩ := IsS.blkF (s' := { t with held := t.held + 1 }) HS5.out (HS5.out.blk.setCell 35 (.int .i64 (t.held + 1))) rfl rfl HS5.out.ok0 HS5.out.ok1 fr6
            exact ⟨_, rfl, Fr.owns HR5.out fr6 (owns_ne HR5.out HS5.out.blk (by decide)), hs6, Hot.then HT5.out hot6⟩
          · -- it goes
            obtain ⟨kk', hkk⟩ : ∃ k', k' = takeB kk z := ⟨_, rfl⟩
            rw [← hkk] at HPT PTOK HSENT
            clear hkk
            have HPP := Lib.hid (fun W5 (hq : IsQ W5 t.qu room turns M) => prio_Pop_some W5 t.qu room turns M hq hpos (by omega))
            go_upto_block 4 with (first
              | (go_at_call 20; (first | rw [EZ2.out rfl] | rw [EZ1.out rfl]); refine HPT.out.mono ?_; rintro e w5 ⟨rfl, hk5, hf5⟩
                 have hsot5 := IsS.bucketF HS4.out hk5 PTOK.out hf5
                 have HS5 := Lib.hid hsot5.1
                 have HR5 := Lib.hid (Fr.owns HR4.out hf5 (owns_ne HR4.out HS4.out.bucket (by decide)))
                 have HT5 := Lib.hid (Hot.then HT4.out hsot5.2)
                 have hd5 := hd4.keep hf5 (hd4.ne HS4.out.bucket (by decide))
                 have hg5 := hg.keep hf5 (hg.ne HS4.out.bucket (by decide))
                 have k31 : w5.cell? ⟨bs, 31, none⟩ = some (.pointer (some ⟨t.qu, 0, none⟩)) := SendS.rest_cell HS5.out.blk 1 (by decide)
                 clear hsot5 hk5 hf5 hd4 hg)
              | (go_at_call 21; refine (HPP.out _ HS5.out.queue).mono ?_; rintro e w6 ⟨rfl, hq6, hst6⟩
                 have hsot6 := IsS.queueF HS5.out hq6 hst6
                 have HS6 := Lib.hid hsot6.1
                 have HR6 := Lib.hid (Fr.owns HR5.out hst6.fr (HS5.out.notQrow HR5.out (by unfold hotT; decide)))
                 have HT6 := Lib.hid (Hot.then HT5.out hsot6.2)
                 have hd6 := hd5.keep hst6.fr (HS5.out.notQ hd5 (by unfold hotT; decide))
                 have hg6 := hg5.keep hst6.fr (HS5.out.notQ hg5 (by unfold hotT; decide))
                 clear hsot6 hq6 hst6 hd5 hg5 k31))
            have bnd6 : w.heap.size ≤ w6.heap.size := HT6.out.size
            clear HR4 HS4 HT4 HR5 HS5 HT5 HPP HPT PTOK bnd4 t0 t1 k30
            have STOP : Hid (SL B w bs t out W x.d kk' room turns (Hp.take ahead M 0) bd g cs' 0 u3 w6) := Lib.hid ⟨HR6.out, HS6.out, HT6.out, hd6, hg6⟩
            clear HR6 HS6 HT6 hd6 hg6
            obtain ⟨i0, hi, hz0, hz1, hz2⟩ := info_parts info_sent
            have I1 := Lib.hid hi; have I2 := Lib.hid hz0; have I3 := Lib.hid hz1; have I4 := Lib.hid hz2
            clear hi hz0 hz1 hz2
            go_wp2_with fail
            go_loopw [73, 3] (fun i v wr => ∃ j : Nat, i = .int .i64 j ∧ j ≤ W.length ∧ SL B w bs t out W x.d kk' room turns (Hp.take ahead M 0) bd g cs' j v wr) (fun i _ _ => W.length - (intOf i).toNat)
            case atStart => exact ⟨0, rfl, Nat.zero_le _, STOP.out⟩
            case round =>
              obtain ⟨j, rfl, hj, hsl⟩ := hrel
              clear STOP
              have hcl := CL.out
              by_cases hjl : j < W.length
              · -- one more way
                have htk : W.take (j + 1) = W.take j ++ [W[j]] := List.take_succ_eq_append_getElem hjl
                have hi2 : W[j] < 2 := waysS_lt t kk x _ (by rw [← WE.out]; exact List.getElem_mem hjl)
                have hgj : (ints W ++ cs')[j]? = some (.int .i64 (W[j] : Nat)) := by
                  rw [List.getElem?_append_left (by simpa [ints] using hjl)]
                  simp [ints, hjl]
                have hsn := sendAll_snoc t out (W.take j) W[j] x.d
                rw [← htk] at hsn
                have hkept := sendAll_kept t out (W.take j) x.d
                obtain ⟨hrow, hs, hot, hd, hg⟩ := hsl
                generalize sendAll t out (W.take j) x.d = S at hsn hkept hrow hs hot
                obtain ⟨s', o'⟩ := S
                simp only at hkept hrow hs hot
                generalize W[j] = i at *
                have hol : o'.length ≤ 514 := by
                  have := hkept.2.2.2.2.2.2
                  rw [List.length_take] at this
                  omega
                rw [hcl] at hjl
                have HSN := Lib.hid hsn
                have HJ := Lib.hid hj
                have kg : wr.cell? ⟨g, j, none⟩ = some (.int .i64 i) := by rw [hg.cell, hgj]
                have HR7 := Lib.hid hrow; have HS7 := Lib.hid hs; have HT7 := Lib.hid hot; have HD7 := Lib.hid hd; have HG7 := Lib.hid hg
                have bnd7 : w.heap.size ≤ wr.heap.size := hot.size
                have PS := Lib.hid (mpath_stamp wr bs s' hs.blk i hi2 x.d)
                have HI := Lib.hid hi2
                have HCL := Lib.hid hcl
                have j0 : (0 : Int) ≤ j := by omega
                clear htk hgj hsn hkept hrow hs hot hd hg hj hcl hi2
                go_upto_region 17 with (first
                  | (refine wpList_load_agg rfl 34 (.tmp 4) rfl bd 0 rfl x.d.cells (Reads.whole HD7.out) Try.underlying34 rfl sz_dg ?_)
                  | (go_at_call 22; refine PS.out.mono ?_; rintro e w8 ⟨rfl, hb8, hf8⟩
                     have hs8 := IsS.blkF HS7.out hb8 (numS_kept s' i).1 (numS_kept s' i).2 (numS_ok s' i HS7.out.ok0 HS7.out.ok1).1 (numS_ok s' i HS7.out.ok0 HS7.out.ok1).2 hf8
                     have HS8 := Lib.hid hs8.1
                     have HT8 := Lib.hid (Hot.then HT7.out hs8.2)
                     have HR8 := Lib.hid (Fr.owns HR7.out hf8 (owns_ne HR7.out HS7.out.blk (by decide)))
                     have HD8 := Lib.hid (HD7.out.keep hf8 (HD7.out.ne HS7.out.blk (by decide)))
                     have HG8 := Lib.hid (HG7.out.keep hf8 (HG7.out.ne HS7.out.blk (by decide)))
                     have bnd8 : w.heap.size ≤ w8.heap.size := HT8.out.size
                     clear hs8 hb8 hf8)
                  | (refine wpList_build1 rfl 35 38 (.tmp 81) rfl i0 _ 12 Try.underlying35 I1.out I2.out I3.out (by decide) (by decide) (sentCells i (stampD s' i x.d)) rfl rfl ?_)
                  | (refine wpList_append_base w.heap.size rfl (.tmp 77) (.tmp 82) 35 rfl 38 i0 _ 12 96 Try.underlying35 I1.out I2.out I3.out I4.out rfl (by decide) _ o'.length (flatSent o') rfl (HR8.out.alloc _) (by simp; omega) _ 1 1 (sentCells i (stampD s' i x.d)) rfl rfl (cells_add (Blk.new w8 38 _)) (SentS.one ⟨i, stampD s' i x.d⟩) (by unfold maxLen; omega) (by omega) (by decide) ?_
                     intro v9 w9 ho9 hf9))
                have ho8 := HR8.out.alloc (.cells (sentCells i (stampD s' i x.d)).toArray 38)
                have hs9 := IsS.keepOwn (HS8.out.keep ((Fr.refl _ w8).alloc _)) ho8 (by unfold hotT; decide) hf9
                have hot9 : Fr (Hot B w) w w9 := (HT8.out.alloc _).then hf9 (fun b hb e => by have := (ho8.lt b e.symm).1; omega)
                have hd9 := (HD8.out.alloc _).keep hf9 (fun e => owns_ne ho8 (HD8.out.alloc _) (by decide) _ e.symm rfl)
                have hg9 := (HG8.out.alloc _).keep hf9 (fun e => owns_ne ho8 (HG8.out.alloc _) (by decide) _ e.symm rfl)
                go_wp2
                go_roundw
                case rel =>
                  refine ⟨j + 1, by go_num, by have := HCL.out; omega, ?_⟩
                  unfold SL
                  rw [HSN.out]
                  exact ⟨by simp only [sendOne, List.length_append, List.length_cons, List.length_nil, flatSent_snoc]; exact ho9, hs9, hot9, hd9, hg9⟩
                case measure => have := HCL.out; simp [intOf]; omega
              · -- all went
                obtain rfl : j = W.length := by omega
                rw [hcl] at hj
                obtain ⟨hrow, hs, hot, hd, hg⟩ := hsl
                rw [List.take_length] at hrow hs
                have HR7 := Lib.hid hrow; have HS7 := Lib.hid hs; have HT7 := Lib.hid hot
                have hlf : LoopF B w bs s k room turns L (gk - 1) _ wr := ⟨sent ⟨t, kk, out, M⟩, by
                    rw [HSENT.out]
                    show (Hp.take ahead M 0).length = gk - 1
                    rw [Go.Mm.take_len M hpos]
                    omega, by
                    have hfl := HF.out
                    rw [flushR_go _ ⟨t, kk, out, M⟩ hpos HG.out] at hfl
                    rw [← hfl, Nat.sub_add_cancel (by omega)], by rw [HSENT.out]; exact hrow, by rw [HSENT.out]; exact hs, hot, by
                    rw [HSENT.out]
                    intro y hy
                    exact HD.out y (Go.Mm.take_mem M hpos y hy), by
                    rw [HSENT.out]
                    show (sendAll t out W x.d).1.held = s.held
                    rw [(sendAll_kept t out W x.d).2.2.1]
                    exact HH.out, by
                    rw [HSENT.out]
                    show (sendAll t out W x.d).2.length + 2 * (gk - 1) ≤ 512
                    rw [(sendAll_kept t out W x.d).2.2.2.2.2.2]
                    omega⟩
                have HLF := Lib.hid hlf
                clear hlf hrow hs hot hd hg
                rw [hcl]
                clear hcl hjl
                go_wp2
                go_roundg (gk - 1)
                case measure => omega
                case rel => exact HLF.out

end Go.Proofs.Ytppnaeedangndaa
