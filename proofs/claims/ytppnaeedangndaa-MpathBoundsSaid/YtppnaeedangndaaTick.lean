/- Time goes by at a sender. -/
import Derived.Test.YtppnaeedangndaaPush
import Derived.Test.YtppnaeedangndaaLaws4
import Derived.Deep.LoopGhost
namespace Go.Mm

/-- One that went: by which way, and what. -/
structure SentS where
  (way : Nat)
  d : DG

def SentS.cells (x : SentS) : List Value := .int .i64 x.way :: x.d.cells
def flatSent (l : List SentS) : List Value := l.flatMap SentS.cells

/-- A datagram that keeps a way alive. -/
def keepD (session : Int) : DG := ⟨7, session, 0, 0, 0, 0, 0, 0, 0, 0, none, 0, 0⟩

/-- A sender, its bucket, what went. -/
structure Run where
  s : SendS
  k : BuckS
  out : List SentS

/-- A way's tick. -/
def tickWay (x : Run) (i : Nat) : Run :=
  let t := Go.Proofs.Ytppnaeedangndaa.tickS (Go.Proofs.Ytppnaeedangndaa.wayAt x.s i)
  let s1 := setWay x.s i t.1
  if t.2 = true then
    if mayB x.k 33 = true then ⟨numS s1 i, takeB x.k 33, x.out ++ [⟨i, stampD s1 i (keepD s1.session)⟩]⟩ else ⟨s1, x.k, x.out⟩
  else ⟨s1, x.k, x.out⟩

def tickRun (s : SendS) (k : BuckS) (n : Nat) : Run := (List.range n).foldl tickWay ⟨{ s with now := IntKind.u32.wrap (s.now + 1) }, tickB k, []⟩

theorem tickRun_succ (s : SendS) (k : BuckS) (n : Nat) : tickRun s k (n + 1) = tickWay (tickRun s k n) n := by
  unfold tickRun
  rw [List.range_succ, List.foldl_append]
  rfl

theorem tickWay_no (x : Run) (i : Nat) (h : (Go.Proofs.Ytppnaeedangndaa.tickS (Go.Proofs.Ytppnaeedangndaa.wayAt x.s i)).2 = false) : tickWay x i = ⟨setWay x.s i (Go.Proofs.Ytppnaeedangndaa.tickS (Go.Proofs.Ytppnaeedangndaa.wayAt x.s i)).1, x.k, x.out⟩ := by
  unfold tickWay
  simp [h]

theorem tickWay_held (x : Run) (i : Nat) (h : (Go.Proofs.Ytppnaeedangndaa.tickS (Go.Proofs.Ytppnaeedangndaa.wayAt x.s i)).2 = true) (hm : mayB x.k 33 = false) : tickWay x i = ⟨setWay x.s i (Go.Proofs.Ytppnaeedangndaa.tickS (Go.Proofs.Ytppnaeedangndaa.wayAt x.s i)).1, x.k, x.out⟩ := by
  unfold tickWay
  simp [h, hm]

theorem tickWay_go (x : Run) (i : Nat) (s1 : SendS) (h : (Go.Proofs.Ytppnaeedangndaa.tickS (Go.Proofs.Ytppnaeedangndaa.wayAt x.s i)).2 = true) (hm : mayB x.k 33 = true) (hs : s1 = setWay x.s i (Go.Proofs.Ytppnaeedangndaa.tickS (Go.Proofs.Ytppnaeedangndaa.wayAt x.s i)).1) :
    tickWay x i = ⟨numS s1 i, takeB x.k 33, x.out ++ [⟨i, stampD s1 i (keepD s1.session)⟩]⟩ := by
  unfold tickWay
  simp [h, hm, hs]

theorem setWay_kept (s : SendS) (i : Nat) (p : PathS) : (setWay s i p).bk = s.bk ∧ (setWay s i p).qu = s.qu ∧ (setWay s i p).session = s.session ∧ (setWay s i p).now = s.now ∧ (setWay s i p).dropped = s.dropped ∧ (setWay s i p).held = s.held := by
  unfold setWay
  split <;> exact ⟨rfl, rfl, rfl, rfl, rfl, rfl⟩

theorem setWay_ok (s : SendS) (i : Nat) (p : PathS) (h0 : s.p0.Ok) (h1 : s.p1.Ok) (h : p.Ok) : (setWay s i p).p0.Ok ∧ (setWay s i p).p1.Ok := by
  unfold setWay
  split
  · exact ⟨h, h1⟩
  · exact ⟨h0, h⟩

theorem PathS.ok_next {p : PathS} (h : p.Ok) (n : Int) : PathS.Ok { p with next := n } := ⟨h.1, h.2, h.3, h.4, h.5, h.6, h.7, h.8⟩

theorem numS_kept (s : SendS) (i : Nat) : (numS s i).bk = s.bk ∧ (numS s i).qu = s.qu := ⟨(setWay_kept s i _).1, (setWay_kept s i _).2.1⟩

theorem wayAt_ok (s : SendS) (i : Nat) (h0 : s.p0.Ok) (h1 : s.p1.Ok) : (Go.Proofs.Ytppnaeedangndaa.wayAt s i).Ok := by unfold Go.Proofs.Ytppnaeedangndaa.wayAt; split; exact h0; exact h1

theorem numS_ok (s : SendS) (i : Nat) (h0 : s.p0.Ok) (h1 : s.p1.Ok) : (numS s i).p0.Ok ∧ (numS s i).p1.Ok := setWay_ok s i _ h0 h1 (PathS.ok_next (wayAt_ok s i h0 h1) _)

theorem SentS.one (x : SentS) : ∀ u ∈ x.cells, u.oneCell' = true := by
  intro u hu
  rcases List.mem_cons.1 hu with h | h
  · subst h; rfl
  · exact DG.one x.d u h

theorem length_flatSent (l : List SentS) : (flatSent l).length = l.length * 12 := by
  induction l with
  | nil => rfl
  | cons x l ih => simp only [flatSent, List.flatMap_cons, List.length_append, List.length_cons] at *; rw [ih]; simp [SentS.cells, DG.length_cells]; omega

theorem flatSent_snoc (l : List SentS) (x : SentS) : flatSent (l ++ [x]) = flatSent l ++ x.cells := by simp [flatSent]

end Go.Mm
namespace Go.Proofs.Ytppnaeedangndaa
open Go.RowKit Go.Mm Go.Rg

theorem info_sent : (Try.prog.info? 38).map (fun i => (i.zero, i.size, i.bytes)) = some (some (.agg #[.int .i64 0, .int .i64 0, .int .u32 0, .int .u32 0, .int .i64 0, .int .u32 0, .int .u32 0, .int .u32 0, .int .i64 0, .int .i64 0, .int .i64 0, .slice none 0 0]), 12, 96) := by kernel_rfl

theorem wire_Size_keep (w : World) (n : Int) : Calls Try.prog 12 #[.agg (keepD n).cells.toArray] w fun e w' => e = .returned (.int .i64 33) ∧ Fr (fun _ => False) w w' :=
  (wire_Size w (keepD n) (by show 0 ≤ 1000000000000; decide)).mono fun _ _ h => h

theorem tickRun_len (s : SendS) (k : BuckS) (n : Nat) : (tickRun s k n).out.length ≤ n := by
  induction n with
  | zero => exact Nat.le_refl _
  | succ n ih =>
    rw [tickRun_succ]
    unfold tickWay
    simp only
    split
    · split
      · simp; exact ih
      · exact Nat.le_succ_of_le ih
    · exact Nat.le_succ_of_le ih

theorem tickRun_s (s : SendS) (k : BuckS) (n : Nat) : (tickRun s k n).s.bk = s.bk ∧ (tickRun s k n).s.qu = s.qu ∧ (tickRun s k n).s.session = s.session ∧ (tickRun s k n).s.dropped = s.dropped ∧ (tickRun s k n).s.held = s.held := by
  induction n with
  | zero => exact ⟨rfl, rfl, rfl, rfl, rfl⟩
  | succ n ih =>
    rw [tickRun_succ]
    have e : ∀ (t : SendS) i p, (setWay t i p).bk = t.bk ∧ (setWay t i p).qu = t.qu ∧ (setWay t i p).session = t.session ∧ (setWay t i p).dropped = t.dropped ∧ (setWay t i p).held = t.held := by
      intro t i p
      unfold setWay
      split <;> exact ⟨rfl, rfl, rfl, rfl, rfl⟩
    unfold tickWay
    simp only
    split
    · split
      · unfold numS
        simp only [e, ih, and_self]
      · simp only [e, ih, and_self]
    · simp only [e, ih, and_self]

set_option maxRecDepth 100000 in
set_option maxHeartbeats 1600000 in
theorem mpath_Tick (w : World) (bs : Nat) (s : SendS) (k : BuckS) (room turns : Int) (L : List It) {B : Nat} (h : IsS B w bs s k room turns L) :
    Calls Try.prog 9 #[.pointer (some ⟨bs, 0, none⟩)] w fun e w' => ∃ v, e = .returned v ∧ w'.ownsRow w.heap.size 38 12 v (tickRun s k 2).out.length (flatSent (tickRun s k 2).out) ∧ IsS B w' bs (tickRun s k 2).s (tickRun s k 2).k room turns L ∧ Fr (Hot B w) w w' := by
  have h33 : w.cell? ⟨bs, 33, none⟩ = some (.int .u32 s.now) := SendS.rest_cell h.blk 3 (by decide)
  have f33 : w.frozen? ⟨bs, 33, none⟩ = false := h.blk.free _
  have h30 : w.cell? ⟨bs, 30, none⟩ = some (.pointer (some ⟨s.bk, 0, none⟩)) := SendS.rest_cell h.blk 0 (by decide)
  have H := Lib.hid h
  clear h
  go_enter Try.func9, Try.ntmps9
  go_upto_region 2 with fail
  obtain ⟨hs1, hot1⟩ := IsS.blkF (s' := { s with now := IntKind.u32.wrap (s.now + 1) }) H.out (H.out.blk.setCell 33 (.int .u32 (IntKind.u32.wrap (s.now + 1)))) rfl rfl H.out.ok0 H.out.ok1 ((Fr.refl (· = bs) w).setCell ⟨bs, 33, none⟩ (.int .u32 (IntKind.u32.wrap (s.now + 1))) (.inl rfl))
  have ew : IntKind.u32.wrap (s.now + 1) = (s.now + 1) % 4294967296 := by rw [IntKind.wrap_u32]
  rw [ew] at hs1 hot1
  generalize w.setCell ⟨bs, 33, none⟩ (.int .u32 ((s.now + 1) % 4294967296)) = W1 at hs1 hot1 ⊢
  clear h33 f33 h30
  have h30 : W1.cell? ⟨bs, 30, none⟩ = some (.pointer (some ⟨s.bk, 0, none⟩)) := SendS.rest_cell hs1.blk 0 (by decide)
  have HS1 := Lib.hid hs1
  clear hs1
  have PT := Lib.hid (pacer_Tick W1 s.bk 76 k HS1.out.bucket HS1.out.okb)
  go_upto_region 3 with (go_at_call 23; refine PT.out.mono ?_; rintro e W2 ⟨rfl, hk2, hf2⟩)
  obtain ⟨hs2, hot2⟩ := IsS.bucketF HS1.out hk2 (tickB_ok k HS1.out.okb) hf2
  have hot2 := Hot.then hot1 hot2
  clear HS1 hk2 hf2 hot1 H h30 PT
  rw [← ew] at hs2
  have HS2 := Lib.hid hs2
  have HT2 := Lib.hid hot2
  clear hs2 hot2 ew
  go_wp2
  go_loopw [18, 3] (fun v c wr => ∃ i : Nat, v = .int .i64 i ∧ i ≤ 2 ∧ wr.ownsRow w.heap.size 38 12 c (tickRun s k i).out.length (flatSent (tickRun s k i).out) ∧ IsS B wr bs (tickRun s k i).s (tickRun s k i).k room turns L ∧ Fr (Hot B w) w wr) (fun v _ _ => 2 - (intOf v).toNat)
  case atStart => exact ⟨0, rfl, by omega, ⟨rfl, .inl ⟨rfl, rfl⟩⟩, HS2.out, HT2.out⟩
  case round =>
    obtain ⟨i, rfl, hi, hrow, hs, hot⟩ := hrel
    clear HS2 HT2
    have i0 : (0 : Int) ≤ i := by omega
    by_cases hi2 : i < 2
    · have i1 : (i : Int) < 2 := by omega
      have HX := Lib.hid (tickRun_succ s k i)
      obtain ⟨r1, r2, r3, r4, r5⟩ := tickRun_s s k i
      have rlen := tickRun_len s k i
      generalize tickRun s k i = x at *
      obtain ⟨t, kk, out⟩ := x
      simp only at r1 r2 r3 r4 r5 hs hrow rlen
      obtain ⟨pre, post, hsg, hback⟩ := SendS.part hs.blk i hi2
      have okp : (wayAt t i).Ok := by unfold wayAt; split; exact hs.ok0; exact hs.ok1
      have PT := Lib.hid (path_Tick wr bs 64 (i * 15) pre post (wayAt t i) hsg okp)
      have okq : (tickS (wayAt t i)).1.Ok := tickS_ok _ okp
      obtain ⟨q, hq⟩ : ∃ q, q = (tickS (wayAt t i)).1 := ⟨_, rfl⟩
      obtain ⟨b, hb⟩ : ∃ b, b = (tickS (wayAt t i)).2 := ⟨_, rfl⟩
      have HQ := Lib.hid hq
      have HB := Lib.hid hb
      rw [← hq] at okq
      clear hq hb
      go_upto_region 8 with (go_at_call 24; refine PT.out.mono ?_; rintro e w1 ⟨rfl, hs1, hf1⟩; rw [← HB.out])
      all_goals
        have hb1 := hback _ _ hs1
        rw [← HQ.out] at hb1
        obtain ⟨kp1, kp2, kp3, kp4, kp5, kp6⟩ := setWay_kept t i q
        obtain ⟨kk0, kk1⟩ := setWay_ok t i q hs.ok0 hs.ok1 okq
        obtain ⟨hs2, hot2⟩ := IsS.blkF hs hb1 kp1 kp2 kk0 kk1 hf1
        have hrow2 := Fr.owns hrow hf1 (owns_ne hrow hs.blk (by decide))
        have hot2 := Hot.then hot hot2
        have bnd : w.heap.size ≤ w1.heap.size := hot2.size
        clear hot hs hrow hf1 hs1 hb1 hsg hback PT kp1 kp2 kp3 kp4 kp5 kp6 kk0 kk1 okp okq r1 r2 r3 r4 r5
        obtain ⟨s1, hs1⟩ : ∃ s1, s1 = setWay t i q := ⟨_, rfl⟩
        rw [← hs1] at hs2
        have HS1 := Lib.hid hs1
        clear hs1
        have HR2 := Lib.hid hrow2; have HS2 := Lib.hid hs2; have HT2 := Lib.hid hot2
        clear hrow2 hs2 hot2
      · -- it is to be tried
        have hbt : b = true := by assumption
        have HB2 : Hid ((tickS (wayAt t i)).2 = true) := Lib.hid (by rw [← HB.out]; exact hbt)
        have k32 : w1.cell? ⟨bs, 32, none⟩ = some (.int .u32 s1.session) := SendS.rest_cell HS2.out.blk 2 (by decide)
        have lt1 := HS2.out.blk.lt
        go_upto_region 9 with (
          refine wpList_store_agg rfl 34 (.tmp 5) (.tmp 31) rfl w1.heap.size 0 rfl (keepD s1.session).cells rfl _ zDG (Blk.new w1 _ zDG) (by simp [zDG, DG.length_cells]) (DG.one _) sz_dg ?_
          intro w3 hd3 hf3
          rw [splice_whole _ _ (by simp [zDG, DG.length_cells])] at hd3)
        have fr13 : Fr (fun _ => False) w1 w3 := ((Fr.refl _ w1).alloc _).then hf3 (fun b hb e => by omega)
        have hs3 := IsS.keep HS2.out fr13
        have HT3 := Lib.hid (Hot.then HT2.out (Hot.no fr13))
        have HR3 := Lib.hid (Fr.owns HR2.out fr13 (fun _ _ e => e))
        have bnd3 : w.heap.size ≤ w3.heap.size := HT3.out.size
        clear hf3 HT2 HR2 HS2 k32 fr13
        obtain ⟨C, hC⟩ : ∃ C : World → Prop, ∀ w', C w' ↔ (w'.cell? ⟨bs, 30, none⟩ = some (.pointer (some ⟨s1.bk, 0, none⟩)) ∧ Reads w' w1.heap.size 0 (keepD s1.session).cells) := ⟨_, fun _ => Iff.rfl⟩
        have HC := Lib.hid hC; clear hC
        have mkC : ∀ w' k', IsS B w' bs s1 k' room turns L → Blk w' w1.heap.size 34 (keepD s1.session).cells → C w' := fun w' k' h1 h2 => (HC.out _).2 ⟨SendS.rest_cell h1.blk 0 (by decide), Reads.whole h2⟩
        have MKC := Lib.hid mkC; clear mkC
        obtain ⟨m, hm⟩ : ∃ m, m = mayB kk 33 := ⟨_, rfl⟩
        have HM := Lib.hid hm
        clear hm
        have hs3d : IsS B w3.drew bs s1 kk room turns L := hs3.keep (Fr.refl _ w3).drew
        refine wp_region_T (by kernel_rfl) C (fun k => [0, 0, 0, 0, 0, 2, 2].getD k 0) (by kernel_rfl) (MKC.out _ _ hs3d hd3.drew) ?_
        iterate 3 (refine wpT_step (fun K hK => ?_); go_simp; refine ⟨_, fun _ _ => rfl, hK _ _ ?_⟩; clear hK K)
        refine wpT_load1Q rfl rfl 49 _ rfl bs 30 rfl _ (fun w' hw' => ((HC.out _).1 hw').1) Try.underlying49 rfl ?_
        refine wpT_load_aggQ rfl rfl 34 _ rfl w1.heap.size 0 rfl (keepD s1.session).cells (fun w' hw' => ((HC.out _).1 hw').2) Try.underlying34 rfl sz_dg ?_
        refine wpT_loud rfl rfl ?_
        go_simp
        refine (wire_Size_keep _ s1.session).mono ?_
        rintro e w4 ⟨rfl, hf4⟩
        have hs4 := hs3d.keep hf4
        have hd4 := hd3.drew.keep hf4 (fun e => e)
        have HT4 := Lib.hid (Hot.then HT3.out (Hot.no ((Fr.refl _ w3).drew.trans hf4)))
        have HR4 := Lib.hid (Fr.owns HR3.out ((Fr.refl _ w3).drew.trans hf4) (fun _ _ e => e))
        refine ⟨MKC.out _ _ hs4 hd4, ?_⟩
        refine wpT_loud rfl rfl ?_
        go_simp
        refine (pacer_Take _ s1.bk 76 kk hs4.bucket hs4.okb 33).mono ?_
        rintro e w5 ⟨rfl, hk5, hf5⟩
        obtain ⟨hs5, hot5⟩ := IsS.bucketF hs4 hk5 (takeB_ok kk 33 hs4.okb) hf5
        have hd5 := hd4.keep hf5 (hd4.ne hs4.bucket (by decide))
        have HT5 := Lib.hid (Hot.then HT4.out hot5)
        have HR5 := Lib.hid (Fr.owns HR4.out hf5 (owns_ne HR4.out hs4.bucket (by decide)))
        have bnd5 : w.heap.size ≤ w5.heap.size := HT5.out.size
        rw [← HM.out]
        refine ⟨MKC.out _ _ hs5 hd5, ?_⟩
        refine wpT_nil ?_
        clear HT3 HT4 HR3 HR4 hs3 hs3d hs4 hd4 hd3 hk5 hf5 hf4 hot5 bnd3 MKC HC
        have HS5 := Lib.hid hs5
        have HD5 := Lib.hid hd5
        clear hs5 hd5
        cases m with
        | false =>
          have et : takeB kk 33 = kk := by unfold takeB; rw [← HM.out]; simp
          rw [et] at HS5
          have hx := HX.out
          rw [tickWay_held ⟨t, kk, out⟩ i HB2.out HM.out.symm, ← HQ.out, ← HS1.out] at hx
          have HX := Lib.hid hx
          clear hx et
          go_wp2
          go_roundw
          case rel => exact ⟨i + 1, by go_num, by omega, by rw [HX.out]; exact HR5.out, by rw [HX.out]; exact HS5.out, HT5.out⟩
          case measure => simp [intOf]; omega
        | true =>
          have hx := HX.out
          rw [tickWay_go ⟨t, kk, out⟩ i s1 HB2.out HM.out.symm (by rw [HS1.out, HQ.out])] at hx
          have HX := Lib.hid hx
          clear hx
          obtain ⟨i0, hi, hz0, hz1, hz2⟩ := info_parts info_sent
          have I1 := Lib.hid hi; have I2 := Lib.hid hz0; have I3 := Lib.hid hz1; have I4 := Lib.hid hz2
          clear hi hz0 hz1 hz2
          have PS := Lib.hid (mpath_stamp w5 bs s1 HS5.out.blk i hi2 (keepD s1.session))
          go_upto_region 11 with (first
            | (refine wpList_load_agg rfl 34 (.tmp 5) rfl w1.heap.size 0 rfl (keepD s1.session).cells (Reads.whole HD5.out) Try.underlying34 rfl sz_dg ?_)
            | (go_at_call 22; refine PS.out.mono ?_; rintro e w6 ⟨rfl, hb6, hf6⟩
               have hs6 := IsS.blkF HS5.out hb6 (numS_kept s1 i).1 (numS_kept s1 i).2 (numS_ok s1 i HS5.out.ok0 HS5.out.ok1).1 (numS_ok s1 i HS5.out.ok0 HS5.out.ok1).2 hf6
               have HS6 := Lib.hid hs6.1
               have HT6 := Lib.hid (Hot.then HT5.out hs6.2)
               have HR6 := Lib.hid (Fr.owns HR5.out hf6 (owns_ne HR5.out HS5.out.blk (by decide)))
               have bnd6 : w.heap.size ≤ w6.heap.size := HT6.out.size
               clear hs6 hb6 hf6)
            | (refine wpList_build1 rfl 35 38 (.tmp 43) rfl i0 _ 12 Try.underlying35 I1.out I2.out I3.out (by decide) (by decide) (sentCells i (stampD s1 i (keepD s1.session))) rfl rfl ?_)
            | (refine wpList_append_base w.heap.size rfl (.tmp 39) (.tmp 44) 35 rfl 38 i0 _ 12 96 Try.underlying35 I1.out I2.out I3.out I4.out rfl (by decide) _ out.length (flatSent out) rfl (HR6.out.alloc _) (by simp; omega) _ 1 1 (sentCells i (stampD s1 i (keepD s1.session))) rfl rfl (cells_add (Blk.new w6 38 _)) (SentS.one ⟨i, stampD s1 i (keepD s1.session)⟩) (by unfold maxLen; omega) (by omega) (by decide) ?_
               intro v7 w7 ho7 hf7))
          have ho6 := HR6.out.alloc (.cells (sentCells i (stampD s1 i (keepD s1.session))).toArray 38)
          have hs7 := IsS.keepOwn (HS6.out.keep ((Fr.refl _ w6).alloc _)) ho6 (by unfold hotT; decide) hf7
          have hot7 : Fr (Hot B w) w w7 := (HT6.out.alloc _).then hf7 (fun b hb e => by have := (ho6.lt b e.symm).1; omega)
          go_wp2
          go_roundw
          case rel => exact ⟨i + 1, by go_num, by omega, by rw [HX.out]; simp only [List.length_append, List.length_cons, List.length_nil, flatSent_snoc]; exact ho7, by rw [HX.out]; exact hs7, hot7⟩
          case measure => simp [intOf]; omega
      · have hbf : b = false := by assumption
        have hx := HX.out
        rw [tickWay_no ⟨t, kk, out⟩ i (by rw [← HB.out]; exact hbf), ← HQ.out, ← HS1.out] at hx
        have HX := Lib.hid hx
        clear hx hbf
        go_wp2
        go_roundw
        case rel => exact ⟨i + 1, by go_num, by omega, by rw [HX.out]; exact HR2.out, by rw [HX.out]; exact HS2.out, HT2.out⟩
        case measure => simp [intOf]; omega
    · obtain rfl : i = 2 := by omega
      go_wp2
      go_ret
      exact ⟨_, rfl, hrow, hs, hot⟩

end Go.Proofs.Ytppnaeedangndaa
