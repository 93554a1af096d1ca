/- A datagram is pushed. -/
import Derived.Test.YtppnaeedangndaaSendB
import Derived.Test.YtppnaeedangndaaRegF
namespace Go.Proofs.Ytppnaeedangndaa
open Go.RowKit Go.Mm Go.Rg

theorem info_byte : (Try.prog.info? 5).map (fun i => (i.zero, i.size, i.bytes)) = some (some (.int .u8 0), 1, 1) := by kernel_rfl

/-- Bytes as cells. -/
def bytesV (l : List Int) : List Value := l.map (fun n => Value.int .u8 n)

theorem run_append_bytes (w : World) (ty : TypeId) (i : TypeInfo) (hi : Try.prog.info? 5 = some i) (hz : i.zero = some (.int .u8 0)) (hs : i.size = 1) (hb : i.bytes = 1) (g0 : Nat) (hg0 : Blk w g0 5 [])
    (a : Option Addr) (n c : Nat) (l : List Int) (hd : DataAt w a n l) (hn : n ≤ 1200) :
    ∃ g cap cs w', (Builtin.append_ #[32, 32] ty #[.slice (some ⟨g0, 0, none⟩) 0 0, .slice a n c]).run Try.prog w = .ok (.slice (some ⟨g, 0, none⟩) n cap) w' ∧ Blk w' g 5 (bytesV l ++ cs) ∧ Fr (fun _ => False) w w' := by
  by_cases h0 : n = 0
  · subst h0
    have hl : l = [] := List.eq_nil_of_length_eq_zero hd.len
    subst hl
    have hsrc : Src Try.prog i.size 32 (.slice a 0 c) 0 [] w := by
      cases a with
      | none => exact Src.ofNil w Try.underlying32 c
      | some ad => exact Src.ofSlice w Try.underlying32 ad 0 c [] (by simp) (by simp) (by simp)
    have hr := run_append_nothing (P := Try.prog) w 32 32 ty 5 i Try.underlying32 hi (some ⟨g0, 0, none⟩) 0 0 (Nat.le_refl _) _ hsrc
    exact ⟨g0, 0, [], w, hr, hg0, Fr.refl _ _⟩
  · obtain ⟨b, o, rfl, hc⟩ := hd.at_ (by omega)
    have hl := hd.len
    obtain ⟨cap', w', hr, ho, hf⟩ := run_append_full (P := Try.prog) w 32 ty 5 i (.int .u8 0) 1 1 Try.underlying32 hi hz hs hb (by decide) ⟨g0, 0, none⟩ 0 0 [] rfl (by simp) ⟨b, o, none⟩ n c (bytesV l) (by simp [bytesV, hl])
      (fun j u hu => by
        have hj : j < l.length := by
          have := (List.getElem?_eq_some_iff.1 hu).1
          simpa [bytesV] using this
        have e : (⟨b, o, none⟩ : Addr).add j = ⟨b, o + j, none⟩ := by unfold Addr.add; split <;> simp_all
        rw [e, hc j (by omega)]
        rw [← hu]
        simp [bytesV, hj]) (by omega) (by unfold maxLen; omega) (by omega)
    rw [Nat.zero_add] at hr ho
    obtain ⟨g, cap, sp, he, hB, _⟩ := owns_blk ho (by omega)
    cases he
    exact ⟨_, _, sp, w', hr, by simpa using hB, hf⟩

theorem wpList_append_bytes {ops : Array Oper} {rest : List Oper} {x : Oper} {act : Act} {w : World} {Q : Exit → Act → World → Prop} (hgd : x.guard = none) (s y : Operand) (ho : x.op = .call { callee := .builtin .append, args := #[s, y], argTypes := #[32, 32] })
    (i : TypeInfo) (hi : Try.prog.info? 5 = some i) (hz : i.zero = some (.int .u8 0)) (hs : i.size = 1) (hb : i.bytes = 1) (g0 : Nat) (hv : act.eval s = .slice (some ⟨g0, 0, none⟩) 0 0) (hg0 : Blk w g0 5 [])
    (a : Option Addr) (n c : Nat) (l : List Int) (hy : act.eval y = .slice a n c) (hd : DataAt w a n l) (hn : n ≤ 1200)
    (h : ∀ g cap cs w', Blk w' g 5 (bytesV l ++ cs) → Fr (fun _ => False) w w' → wpList Try.prog ops Q rest (act.put x.dst (.slice (some ⟨g, 0, none⟩) n cap)) w') : wpList Try.prog ops Q (x :: rest) act w :=
  wpList_plain hgd fun _ hK => by
    obtain ⟨g, cap, cs, w', hr, h2, h3⟩ := run_append_bytes w x.type i hi hz hs hb g0 hg0 a n c l hd hn
    unfold Oper.wp execOp
    simp only [ho, resolve, invoke, builtin, Sem.run_bind, Sem.run_pure, Result.andThen_ok, List.map_toArray, List.map_cons, List.map_nil, hv, hy, hr]
    exact hK _ _ (h g cap cs w' h2 h3)

theorem checkS_len (d : DG) (l : List Int) (h : l.length = d.dl) (hc : checkS d l = 0) : d.dl ≤ 1200 := by
  unfold checkS at hc
  split at hc
  · cases hc
  · split at hc
    · cases hc
    · rename_i h2
      have hf : formS d l = true := by
        cases hx : formS d l with
        | true => rfl
        | false => exact absurd (.inr (.inr hx)) h2
      unfold formS at hf
      split at hf
      · simp only [shardS, decide_eq_true_eq] at hf
        omega
      · split at hf
        · cases hf
        · split at hf
          · simp only [Bool.and_eq_true, missS, decide_eq_true_eq] at hf
            omega
          · repeat' (split at hf)
            all_goals (simp only [decide_eq_true_eq] at hf; omega)

/-- A sender behind a push: one more was dropped, if there was no room. -/
def dropS (s : SendS) (room : Int) (L : List It) : SendS := if (L.length : Int) < room then s else { s with dropped := s.dropped + 1 }

/-- What the queue holds behind a push. -/
def pushL (room : Int) (L : List It) (x : It) : List It := if (L.length : Int) < room then Hp.push ahead L x else Hp.take ahead (Hp.push ahead L x) (Hp.last ahead (Hp.push ahead L x))

/-- A sender that took a datagram. -/
def Pushed (B : Nat) (w' : World) (bs : Nat) (s : SendS) (k : BuckS) (room turns : Int) (L : List It) (rank : Int) (d : DG) (l : List Int) : Prop :=
  ∃ g cap cs, Blk w' g 5 (bytesV l ++ cs) ∧ IsS B w' bs (dropS s room L) k room (turns + 1) (pushL room L ⟨rank, turns + 1, { d with session := s.session, path := 0, da := some ⟨g, 0, none⟩, dc := cap }⟩)

theorem prio_Push_ (w : World) (bq : Nat) (room turns : Int) (L : List It) (h : IsQ w bq room turns L) (hm : L.length ≤ 256) (ht : 0 ≤ turns ∧ turns ≤ 4611686018427387904) (rank : Int) (d : DG) :
    Calls Try.prog 16 #[.pointer (some ⟨bq, 0, none⟩), .int .i64 rank, .agg d.cells.toArray] w fun e w' =>
      ∃ (gd : DG) (gone : Bool), e = .returned (.tuple #[.agg gd.cells.toArray, .bool gone]) ∧ gone = !decide ((L.length : Int) < room) ∧ IsQ w' bq room (turns + 1) (pushL room L ⟨rank, turns + 1, d⟩) ∧ QStep bq w w' := by
  refine (prio_Push w bq room turns L h hm ht rank d).mono ?_
  rintro e w' ⟨⟨h1, h2⟩, hq⟩
  unfold pushL
  by_cases c : (L.length : Int) < room
  · obtain ⟨he, hi⟩ := h1 c
    exact ⟨⟨0, 0, 0, 0, 0, 0, 0, 0, 0, 0, none, 0, 0⟩, false, by rw [he]; rfl, by simp [c], by rw [if_pos c]; exact hi, hq⟩
  · obtain ⟨he, hi⟩ := h2 (by omega)
    exact ⟨_, true, by rw [he], by simp [c], by rw [if_neg c]; exact hi, hq⟩

set_option maxRecDepth 100000 in
set_option maxHeartbeats 1600000 in
theorem mpath_Push (w : World) (bs : Nat) (s : SendS) (k : BuckS) (room turns : Int) (L : List It) {B : Nat} (h : IsS B w bs s k room turns L) (hm : L.length ≤ 256) (ht : 0 ≤ turns ∧ turns ≤ 4611686018427387904)
    (hdr : 0 ≤ s.dropped ∧ s.dropped ≤ 4611686018427387904) (rank : Int) (d : DG) (l : List Int) (hd : DataAt w d.da d.dl l) :
    Calls Try.prog 7 #[.pointer (some ⟨bs, 0, none⟩), .int .i64 rank, .agg d.cells.toArray] w fun e w' =>
      e = .returned (.int .i64 (checkS { d with session := s.session, path := 0 } l)) ∧
      (checkS { d with session := s.session, path := 0 } l ≠ 0 → IsS B w' bs s k room turns L) ∧
      (checkS { d with session := s.session, path := 0 } l = 0 → Pushed B w' bs s k room turns L rank d l) ∧
      Fr (Hot B w) w w' := by
  have H := Lib.hid h
  have hlt := h.blk.lt
  have h32 : w.cell? ⟨bs, 32, none⟩ = some (.int .u32 s.session) := SendS.rest_cell h.blk 2 (by decide)
  clear h
  obtain ⟨c, hc⟩ : ∃ c, c = checkS { d with session := s.session, path := 0 } l := ⟨_, rfl⟩
  rw [← hc]
  have HC0 := Lib.hid hc
  have HDA := Lib.hid hd
  clear hc hd
  unfold DG.cells
  go_enter Try.func7, Try.ntmps7
  go_upto_region 3 with (go_at_call 11; refine (wire_Check _ ({ d with session := s.session, path := 0 } : DG) l (DataAt.keep HDA.out ((Fr.refl _ w).alloc _))).mono ?_; rintro e w1 ⟨rfl, hf1⟩; rw [← HC0.out])
  have hd1 : Blk w1 w.heap.size 34 ({ d with session := s.session, path := 0 } : DG).cells := Blk.keep (S := fun _ => False) (Blk.new w _ _) hf1 (fun e => e)
  have hf1 : Fr (fun _ => False) w w1 := ((Fr.refl _ w).alloc _).trans hf1
  have HS1 := Lib.hid (IsS.keep H.out hf1)
  clear h32
  by_cases c0 : c = 0
  case neg =>
    have c0' : (c == 0) = false := by simpa using c0
    have CN := Lib.hid c0
    clear c0
    go_wp2
    go_ret
    exact ⟨rfl, fun _ => HS1.out, fun e => absurd e CN.out, Hot.no hf1⟩
  case pos =>
    have c0' : (c == 0) = true := by simpa using c0
    have CP := Lib.hid c0
    clear c0
    have hda := DataAt.keep HDA.out hf1
    have hdl : d.dl ≤ 1200 := checkS_len ({ d with session := s.session, path := 0 } : DG) l HDA.out.len (by rw [← HC0.out]; exact CP.out)
    have k10 : w1.cell? ⟨w.heap.size, 10, none⟩ = some (.slice d.da d.dl d.dc) := hd1.cell 10
    have f10 : w1.frozen? ⟨w.heap.size, 10, none⟩ = false := hd1.free _
    obtain ⟨i0, hi, hz0, hz1, hz2⟩ := info_parts info_byte
    have I1 := Lib.hid hi; have I2 := Lib.hid hz0; have I3 := Lib.hid hz1; have I4 := Lib.hid hz2
    clear hi hz0 hz1 hz2
    have lt1 := hd1.lt
    go_upto_region 6 with (
      refine wpList_append_bytes rfl (.tmp 21) (.tmp 23) rfl i0 I1.out I2.out I3.out I4.out _ rfl (Blk.new w1 _ []) d.da d.dl d.dc l rfl (DataAt.keep hda ((Fr.refl _ w1).alloc _)) hdl ?_
      intro g cap cs w2 hB hf2
      have f10 : w2.frozen? ⟨w.heap.size, 10, none⟩ = false := ((hd1.alloc _).keep hf2 (fun e => e)).free _
      have k10 : w2.cell? ⟨w.heap.size, 10, none⟩ = some (.slice d.da d.dl d.dc) := ((hd1.alloc _).keep hf2 (fun e => e)).cell 10)
    have hne : w.heap.size ≠ g := ((hd1.alloc _).keep hf2 (fun e => e)).ne hB (by decide)
    have hd3 : Blk (w2.setCell ⟨w.heap.size, 10, none⟩ (.slice (some ⟨g, 0, none⟩) d.dl cap)) w.heap.size 34 ({ d with session := s.session, path := 0, da := some ⟨g, 0, none⟩, dc := cap } : DG).cells := ((hd1.alloc _).keep hf2 (fun e => e)).setCell 10 _
    have hB3 : Blk (w2.setCell ⟨w.heap.size, 10, none⟩ (.slice (some ⟨g, 0, none⟩) d.dl cap)) g 5 (bytesV l ++ cs) := hB.setCell_ne _ _ (fun e => hne e.symm)
    have hf3 : Fr (fun _ => False) w (w2.setCell ⟨w.heap.size, 10, none⟩ (.slice (some ⟨g, 0, none⟩) d.dl cap)) := ((hf1.alloc _).trans hf2).setCell _ _ (.inr (Nat.le_refl _))
    have hs3 := IsS.keep H.out hf3
    generalize w2.setCell ⟨w.heap.size, 10, none⟩ (.slice (some ⟨g, 0, none⟩) d.dl cap) = W3 at hd3 hB3 hf3 hs3 ⊢
    clear hd1 hf1 HS1 H hda HDA hB hf2 f10 k10 lt1 I1 I2 I3 I4 i0
    obtain ⟨x, hx⟩ : ∃ x : DG, x = { d with session := s.session, path := 0, da := some ⟨g, 0, none⟩, dc := cap } := ⟨_, rfl⟩
    rw [← hx] at hd3
    have HX := Lib.hid hx
    clear hx
    obtain ⟨C, hC⟩ : ∃ C : World → Prop, ∀ w', C w' ↔ (w'.cell? ⟨bs, 31, none⟩ = some (.pointer (some ⟨s.qu, 0, none⟩)) ∧ Reads w' w.heap.size 0 x.cells) := ⟨_, fun _ => Iff.rfl⟩
    have HC := Lib.hid hC; clear hC
    have mkC : ∀ w', Blk w' bs 64 s.cells → Blk w' w.heap.size 34 x.cells → C w' := fun w' h1 h2 => (HC.out _).2 ⟨SendS.rest_cell h1 1 (by decide), Reads.whole h2⟩
    have MKC := Lib.hid mkC; clear mkC
    have PU := Lib.hid (fun W (hq : IsQ W s.qu room turns L) => prio_Push_ W s.qu room turns L hq hm ht rank x)
    clear hm ht
    refine wp_region_X (by kernel_rfl) C (fun k => [0, 0, 0, 0, 0, 0, 2, 0, 0, 0, 3, 2, 0].getD k 0) (by kernel_rfl) (MKC.out _ hs3.blk.drew hd3.drew) ?_
    refine wpX_go 0 6 7 [6, 7, 8, 9, 10, 11, 12] (MKC.out _ hs3.blk.drew hd3.drew) rfl rfl rfl (by kernel_rfl) ?_
    iterate 3 (refine wpT_step (fun K hK => ?_); go_simp; refine ⟨_, fun _ _ => rfl, hK _ _ ?_⟩; clear hK K)
    refine wpT_load1Q rfl rfl 52 _ rfl bs 31 rfl _ (fun w' hw' => ((HC.out _).1 hw').1) Try.underlying52 rfl ?_
    refine wpT_step (fun K hK => ?_); go_simp; refine ⟨_, fun _ _ => rfl, hK _ _ ?_⟩; clear hK K
    refine wpT_load_aggQ rfl rfl 34 _ rfl w.heap.size 0 rfl x.cells (fun w' hw' => ((HC.out _).1 hw').2) Try.underlying34 rfl sz_dg ?_
    refine wpT_nil ?_
    refine wpX_fork 10 _ _ rfl rfl (by kernel_rfl) ?_ ?_
    · refine wpT_loud rfl rfl ?_
      go_simp
      refine (PU.out _ (hs3.queue.keep (S := fun _ => False) (Fr.refl _ _).drew (fun _ _ e => e))).mono ?_
      rintro e w4 ⟨gd, gone, rfl, hgone, hq4, hst⟩
      have HG := Lib.hid hgone
      clear hgone
      have hs4 : Blk w4 bs 64 s.cells := hs3.blk.drew.keep hst.fr (QF.not (hs3.queue.keep (S := fun _ => False) (Fr.refl _ _).drew (fun _ _ e => e)) hs3.blk.drew (by decide) (fun e => by
        obtain ⟨v, hqb, _⟩ := hs3.queue
        exact hs3.blk.ne hqb (by decide) e))
      have hd4 : Blk w4 w.heap.size 34 x.cells := hd3.drew.keep hst.fr (QF.not (hs3.queue.keep (S := fun _ => False) (Fr.refl _ _).drew (fun _ _ e => e)) hd3.drew (by decide) (fun e => by
        obtain ⟨v, hqb, _⟩ := hs3.queue
        exact hd3.ne hqb (by decide) e))
      refine ⟨MKC.out _ hs4 hd4, ?_⟩
      refine wpT_nil ?_
      refine wpX_go 7 6 0 [] (MKC.out _ hs4 hd4) rfl rfl rfl (by kernel_rfl) ?_
      iterate 3 (refine wpT_step (fun K hK => ?_); go_simp; refine ⟨_, fun _ _ => rfl, hK _ _ ?_⟩; clear hK K)
      refine wpT_step (fun K hK => ?_)
      go_simp
      refine ⟨(Fr.refl _ _).alloc _, MKC.out _ (hs4.alloc _) (hd4.alloc _), hK _ _ ?_⟩
      clear hK K
      refine wpT_store_agg rfl rfl 34 _ _ rfl w4.heap.size 0 rfl gd.cells rfl 34 zDG (Blk.new w4 _ zDG) (Nat.le_refl _) (DG.one _) sz_dg ?_
      intro w5 _ hf5
      have fr45 : Fr (fun _ => False) w4 w5 := ((Fr.refl _ w4).alloc _).then hf5 (fun b hb e => by omega)
      clear hf5
      have hs3d := hs3.keep (Fr.refl _ _).drew
      have hsq := IsS.queueF hs3d hq4 hst
      have hs5 : IsS B w5 bs s k room (turns + 1) (pushL room L ⟨rank, turns + 1, x⟩) := hsq.1.keep fr45
      have hB5 : Blk w5 g 5 (bytesV l ++ cs) := (hB3.drew.keep hst.fr (QF.not (hs3.queue.keep (S := fun _ => False) (Fr.refl _ _).drew (fun _ _ e => e)) hB3.drew (by decide) (fun e => by
        obtain ⟨v, hqb, _⟩ := hs3.queue
        exact hB3.ne hqb (by decide) e))).keep fr45 (fun e => e)
      have hot5 : Fr (Hot B w) w w5 := Hot.then (Hot.then (Hot.no hf3.drew) hsq.2) (Hot.no fr45)
      have hd5 := hd4.keep fr45 (fun e => e)
      refine ⟨MKC.out _ hs5.blk hd5, ?_⟩
      refine wpT_step (fun K hK => ?_); go_simp; refine ⟨_, fun _ _ => rfl, hK _ _ ?_⟩; clear hK K
      refine wpT_nil (wpX_done ?_)
      have h35 : w5.cell? ⟨bs, 34, none⟩ = some (.int .i64 s.dropped) := SendS.rest_cell hs5.blk 4 (by decide)
      have f35 : w5.frozen? ⟨bs, 34, none⟩ = false := hs5.blk.free _
      clear hst hs4 hd4 hq4 fr45 hd5 hs3 hd3 hB3 hf3 MKC PU HC
      obtain ⟨hdr0, hdr1⟩ := hdr
      cases gone with
      | false =>
        go_wp2
        go_ret
        have hr : (L.length : Int) < room := by simpa using HG.out
        exact ⟨ret_int CP.out.symm, fun h => absurd CP.out h, fun _ => ⟨g, cap, cs, hB5, by unfold dropS; rw [if_pos hr, ← HX.out]; exact hs5⟩, hot5⟩
      | true =>
        go_wp2
        go_ret
        obtain ⟨hs6, hot6⟩ := IsS.blkF (s' := { s with dropped := s.dropped + 1 }) hs5 (hs5.blk.setCell 34 (.int .i64 (s.dropped + 1))) rfl rfl hs5.ok0 hs5.ok1 ((Fr.refl (· = bs) w5).setCell ⟨bs, 34, none⟩ (.int .i64 (s.dropped + 1)) (.inl rfl))
        refine ⟨ret_int CP.out.symm, fun h => absurd CP.out h, fun _ => ⟨g, cap, cs, hB5.setCell_ne _ _ (hB5.ne hs5.blk (by decide)), ?_⟩, Hot.then hot5 hot6⟩
        have hr : ¬ (L.length : Int) < room := by simpa using HG.out
        unfold dropS
        rw [if_neg hr, ← HX.out]
        exact hs6
    · refine wpT_step (fun K hK => ?_)
      go_simp
      refine ⟨(Fr.refl _ _).alloc _, MKC.out _ (hs3.blk.drew.alloc _) (hd3.drew.alloc _), hK _ _ ?_⟩
      clear hK K
      refine wpT_nil ?_
      refine wpX_go 6 4 2 [11, 12] (MKC.out _ (hs3.blk.drew.alloc _) (hd3.drew.alloc _)) rfl rfl rfl (by kernel_rfl) ?_
      refine wpT_loud rfl rfl ?_
      go_simp
      refine (PU.out _ (hs3.queue.keep (S := fun _ => False) ((Fr.refl _ _).drew.alloc _) (fun _ _ e => e))).mono ?_
      rintro e w4 ⟨gd, gone, rfl, hgone, hq4, hst⟩
      have HG := Lib.hid hgone
      clear hgone
      have hs4 : Blk w4 bs 64 s.cells := (hs3.blk.drew.alloc _).keep hst.fr (QF.not (hs3.queue.keep (S := fun _ => False) ((Fr.refl _ _).drew.alloc _) (fun _ _ e => e)) (hs3.blk.drew.alloc _) (by decide) (fun e => by
        obtain ⟨v, hqb, _⟩ := hs3.queue
        exact hs3.blk.ne hqb (by decide) e))
      have hd4 : Blk w4 w.heap.size 34 x.cells := (hd3.drew.alloc _).keep hst.fr (QF.not (hs3.queue.keep (S := fun _ => False) ((Fr.refl _ _).drew.alloc _) (fun _ _ e => e)) (hd3.drew.alloc _) (by decide) (fun e => by
        obtain ⟨v, hqb, _⟩ := hs3.queue
        exact hd3.ne hqb (by decide) e))
      refine ⟨MKC.out _ hs4 hd4, ?_⟩
      have hz4 : Blk w4 W3.heap.size 34 zDG := Blk.keep (Blk.new W3.drew _ zDG) hst.fr (QF.not (hs3.queue.keep (S := fun _ => False) ((Fr.refl _ _).drew.alloc _) (fun _ _ e => e)) (Blk.new W3.drew _ zDG) (by decide) (fun e => by
        obtain ⟨v, hqb, _⟩ := hs3.queue
        have := hqb.lt
        have e' : W3.heap.size = s.qu := e
        omega))
      iterate 3 (refine wpT_step (fun K hK => ?_); go_simp; refine ⟨_, fun _ _ => rfl, hK _ _ ?_⟩; clear hK K)
      refine wpT_nil ?_
      refine wpX_go 11 2 0 [] (MKC.out _ hs4 hd4) rfl rfl rfl (by kernel_rfl) ?_
      refine wpT_store_agg rfl rfl 34 _ _ rfl W3.heap.size 0 rfl gd.cells rfl 34 zDG hz4 (Nat.le_refl _) (DG.one _) sz_dg ?_
      intro w5 _ hf5
      have sz3 := hf3.size
      have hs3d := hs3.keep ((Fr.refl _ _).drew.alloc (.cells zDG.toArray 34))
      have hsq := IsS.queueF hs3d hq4 hst
      have hs5 : IsS B w5 bs s k room (turns + 1) (pushL room L ⟨rank, turns + 1, x⟩) := hsq.1.keepB hz4 (by unfold hotT; decide) hf5
      have hB5 : Blk w5 g 5 (bytesV l ++ cs) := ((hB3.drew.alloc _).keep hst.fr (QF.not (hs3.queue.keep (S := fun _ => False) ((Fr.refl _ _).drew.alloc _) (fun _ _ e => e)) (hB3.drew.alloc _) (by decide) (fun e => by
        obtain ⟨v, hqb, _⟩ := hs3.queue
        exact hB3.ne hqb (by decide) e))).keep hf5 (fun e => by have := hB3.lt; omega)
      have hot4 : Fr (Hot B w) w w4 := Hot.then (Hot.no (hf3.drew.alloc _)) hsq.2
      have hot5 : Fr (Hot B w) w w5 := hot4.then hf5 (fun b hb e => by have := hf3.size; omega)
      have hd5 := hd4.keep hf5 (fun e => by have := hd3.lt; omega)
      refine ⟨MKC.out _ hs5.blk hd5, ?_⟩
      refine wpT_step (fun K hK => ?_); go_simp; refine ⟨_, fun _ _ => rfl, hK _ _ ?_⟩; clear hK K
      refine wpT_nil (wpX_done ?_)
      have h35 : w5.cell? ⟨bs, 34, none⟩ = some (.int .i64 s.dropped) := SendS.rest_cell hs5.blk 4 (by decide)
      have f35 : w5.frozen? ⟨bs, 34, none⟩ = false := hs5.blk.free _
      clear hst hs4 hd4 hq4 hd5 hs3 hd3 hB3 hf3 MKC PU HC
      obtain ⟨hdr0, hdr1⟩ := hdr
      cases gone with
      | false =>
        go_wp2
        go_ret
        have hr : (L.length : Int) < room := by simpa using HG.out
        exact ⟨ret_int CP.out.symm, fun h => absurd CP.out h, fun _ => ⟨g, cap, cs, hB5, by unfold dropS; rw [if_pos hr, ← HX.out]; exact hs5⟩, hot5⟩
      | true =>
        go_wp2
        go_ret
        obtain ⟨hs6, hot6⟩ := IsS.blkF (s' := { s with dropped := s.dropped + 1 }) hs5 (hs5.blk.setCell 34 (.int .i64 (s.dropped + 1))) rfl rfl hs5.ok0 hs5.ok1 ((Fr.refl (· = bs) w5).setCell ⟨bs, 34, none⟩ (.int .i64 (s.dropped + 1)) (.inl rfl))
        refine ⟨ret_int CP.out.symm, fun h => absurd CP.out h, fun _ => ⟨g, cap, cs, hB5.setCell_ne _ _ (hB5.ne hs5.blk (by decide)), ?_⟩, Hot.then hot5 hot6⟩
        have hr : ¬ (L.length : Int) < room := by simpa using HG.out
        unfold dropS
        rw [if_neg hr, ← HX.out]
        exact hs6

end Go.Proofs.Ytppnaeedangndaa
