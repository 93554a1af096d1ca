/- Walks over package prio at datagrams: where the last one stands; how many; a new queue. -/
import Derived.Test.YtppnaeedangndaaPrioD
import Derived.Test.YtppnaeedangndaaLaws2
namespace Go.Proofs.Ytppnaeedangndaa
open Go.RowKit Go.Mm Go.Rg

set_option maxRecDepth 100000 in
set_option maxHeartbeats 400000 in
theorem prio_last (w : World) (bq bh Tq Th : Nat) (room turns : Int) (cap : Nat) (L : List It) (sp : List Value) (hq : Blk w bq Tq (qCells room turns bh L.length cap)) (hb : Blk w bh Th (flat L ++ sp))
   (h0 : 0 < L.length) (hm : L.length ≤ 1000000) :
   Calls Try.prog 30 #[.pointer (some ⟨bq, 0, none⟩)] w fun e w' => e = .returned (.int .i64 (Hp.last ahead L : Nat)) ∧ Fr (fun _ => False) w w' := by
  have q2 : w.cell? ⟨bq, 2, none⟩ = some (.slice (some ⟨bh, 0, none⟩) L.length cap) := hq.cell 2
  have bl : (L.length : Int) ≤ 1000000 := by omega
  go_enter Try.func30, Try.ntmps30
  go_wp2
  go_loopw [3, 10] (fun v c wr => ∃ (k j : Nat), v = .int .i64 k ∧ c = .int .i64 j ∧ j ≤ L.length ∧ k < L.length ∧ Hp.lastFrom ahead L (L.length - j) k = Hp.last ahead L ∧ Fr (fun _ => False) w wr) (fun _ c _ => L.length - (intOf c).toNat)
  case atStart => exact ⟨0, 0, rfl, rfl, Nat.zero_le _, h0, rfl, Fr.refl _ _⟩
  case round =>
    obtain ⟨k, j, rfl, rfl, hj, hk, hl, hf⟩ := hrel
    have HL := Lib.hid hl; clear hl
    have hq' := hq.keep hf (fun e => e)
    have hb' := hb.keep hf (fun e => e)
    have q3 : wr.cell? ⟨bq, 2, none⟩ = some (.slice (some ⟨bh, 0, none⟩) L.length cap) := hq'.cell 2
    have bk : (k : Int) < (L.length : Int) := by omega
    have bk0 : 0 ≤ (k : Int) := by omega
    have bj0 : 0 ≤ (j : Int) := by omega
    by_cases hjn : j < L.length
    · have bj : (j : Int) < (L.length : Int) := by omega
      go_wp2
      refine wp_region_T (by kernel_rfl) (fun _ => True) (fun k => [0, 0, 0, 1, 0, 0, 1, 0, 0, 0, 1, 0, 0, 1, 2].getD k 0) (by kernel_rfl) trivial ?_
      iterate 6 (refine wpT_step (fun K hK => ?_); go_simp; refine hK _ _ ?_; clear hK K)
      refine wpT_load_agg rfl rfl 81 _ rfl bh (k * 13) rfl (Hp.nth L k).cells (reads_item hb' k hk).drew Try.underlying81 rfl sz_item ?_
      iterate 6 (refine wpT_step (fun K hK => ?_); go_simp; refine hK _ _ ?_; clear hK K)
      refine wpT_load_agg rfl rfl 81 _ rfl bh (j * 13) rfl (Hp.nth L j).cells (reads_item hb' j hjn).drew Try.underlying81 rfl sz_item ?_
      refine wpT_step (fun K hK => ?_)
      go_simp
      refine (prio_ahead (Hp.nth L k) (Hp.nth L j) wr.drew).mono ?_
      rintro e w1 ⟨rfl, hf1⟩
      have hf2 : Fr (fun _ => False) w w1 := hf.drew.trans hf1
      have hs : ∀ c, ahead (Hp.nth L k) (Hp.nth L j) = c → Hp.lastFrom ahead L (L.length - (j + 1)) (if c = true then j else k) = Hp.last ahead L := by
        intro c hc
        rw [← HL.out, show L.length - j = (L.length - (j + 1)) + 1 by omega]
        conv => rhs; unfold Hp.lastFrom
        rw [show L.length - (L.length - (j + 1) + 1) = j by omega, hc]
      clear q3 hq' hb' hf1 hf HL
      cases ha : ahead (Hp.nth L k) (Hp.nth L j) with
      | true =>
        have HS := Lib.hid (hs _ ha); clear hs ha
        refine hK _ _ ?_
        clear hK K
        refine wpT_nil ?_
        go_wp2
        go_roundw
        case rel => exact ⟨j, j + 1, rfl, by go_num, by omega, hjn, by have := HS.out; rw [if_pos rfl] at this; exact this, hf2⟩
        case measure => simp [intOf]; omega
      | false =>
        have HS := Lib.hid (hs _ ha); clear hs ha
        refine hK _ _ ?_
        clear hK K
        refine wpT_nil ?_
        go_wp2
        go_roundw
        case rel => exact ⟨k, j + 1, rfl, by go_num, by omega, hk, by have := HS.out; rw [if_neg (by simp)] at this; exact this, hf2⟩
        case measure => simp [intOf]; omega
    · have bj : (L.length : Int) ≤ (j : Int) := by omega
      go_wp2
      go_ret
      refine ⟨?_, hf⟩
      have := HL.out
      rw [show L.length - j = 0 by omega] at this
      rw [← this]
      rfl

/-- A queue in memory: its room, how many turns it has given, what waits (as a heap). -/
def IsQ (w : World) (bq : Nat) (room turns : Int) (L : List It) : Prop :=
  ∃ v, Blk w bq 79 [.int .i64 room, .int .i64 turns, v] ∧ w.ownsRow 0 81 13 v L.length (flat L)

theorem IsQ.opened {w : World} {bq : Nat} {room turns : Int} {L : List It} (h : IsQ w bq room turns L) (hn : 0 < L.length) :
    ∃ bh cap sp, Blk w bq 79 (qCells room turns bh L.length cap) ∧ Blk w bh 81 (flat L ++ sp) ∧ L.length ≤ cap ∧ cap ≤ maxLen ∧ (flat L ++ sp).length = cap * 13 ∧ bq ≠ bh := by
  obtain ⟨v, hq, ho⟩ := h
  obtain ⟨g, cap, sp, rfl, hb, h1, h2, h3⟩ := owns_blk ho hn
  exact ⟨g, cap, sp, hq, hb, h1, h2, h3, hq.ne hb (by decide)⟩

theorem IsQ.mk {w : World} {bq bh cap : Nat} {room turns : Int} {L : List It} {sp : List Value} (hq : Blk w bq 79 (qCells room turns bh L.length cap)) (hb : Blk w bh 81 (flat L ++ sp)) (h1 : L.length ≤ cap) (h2 : cap ≤ maxLen)
    (h3 : (flat L ++ sp).length = cap * 13) : IsQ w bq room turns L :=
  ⟨_, hq, owns_of_blk hb (length_flat L) h1 h2 h3⟩

/-- The length, whatever the heap's value. -/
theorem IsQ.head {w : World} {bq : Nat} {room turns : Int} {L : List It} (h : IsQ w bq room turns L) : ∃ A c, Blk w bq 79 [.int .i64 room, .int .i64 turns, .slice A L.length c] := by
  obtain ⟨v, hq, h1, h2⟩ := h
  rcases h2 with ⟨rfl, h2⟩ | ⟨g, cap, cur, rfl, _⟩
  · exact ⟨none, 0, by rw [h2]; exact hq⟩
  · exact ⟨_, _, hq⟩

/-- Which blocks are a queue's own. -/
def QF (w : World) (bq : Nat) (b : Nat) : Prop := b = bq ∨ ∃ room turns n cap, Blk w bq 79 (qCells room turns b n cap)

/-- What a queue's call may have turned: its own blocks; what is its own then is its own, or new. -/
structure QStep (bq : Nat) (w w' : World) : Prop where
  fr : Fr (QF w bq) w w'
  own : ∀ b, b < w.heap.size → QF w' bq b → QF w bq b

theorem QStep.refl (bq : Nat) (w : World) : QStep bq w w := ⟨Fr.refl _ _, fun _ _ h => h⟩

theorem QStep.trans {bq : Nat} {w w1 w2 : World} (h : QStep bq w w1) (k : QStep bq w1 w2) : QStep bq w w2 :=
  ⟨h.fr.then k.fr (fun b hb hq => h.own b hb hq), fun b hb hq => h.own b hb (k.own b (Nat.lt_of_lt_of_le hb h.fr.size) hq)⟩

theorem QF.ty {w : World} {bq : Nat} {room turns : Int} {L : List It} (h : IsQ w bq room turns L) {b : Nat} (hb : QF w bq b) : b = bq ∨ ∃ cs, Blk w b 81 cs := by
  rcases hb with hb | ⟨room', turns', n, cap, hb⟩
  · exact .inl hb
  · obtain ⟨v, hq, h1, h2⟩ := h
    have := (hq.same hb).2
    simp only [qCells, List.cons.injEq] at this
    obtain ⟨_, _, rfl, _⟩ := this
    rcases h2 with ⟨h2, _⟩ | ⟨g, cap', cur, hv, _, hh, _⟩
    · cases h2
    · simp only [Value.slice.injEq, Option.some.injEq, Addr.mk.injEq] at hv
      obtain ⟨⟨rfl, _⟩, _⟩ := hv
      exact .inr ⟨cur.toList, ⟨by simpa using hh⟩⟩

/-- A block of another type, not the queue's own block, is not touched. -/
theorem QF.not {w : World} {bq : Nat} {room turns : Int} {L : List It} (h : IsQ w bq room turns L) {b T : Nat} {cs : List Value} (hb : Blk w b T cs) (hT : T ≠ 81) (hne : b ≠ bq) : ¬ QF w bq b := by
  intro hq
  rcases QF.ty h hq with e | ⟨cs', hb'⟩
  · exact hne e
  · exact hT (hb.same hb').1

theorem IsQ.keep {w w' : World} {bq : Nat} {room turns : Int} {L : List It} (h : IsQ w bq room turns L) {S : Nat → Prop} (hf : Fr S w w') (hn : ∀ b, QF w bq b → ¬ S b) : IsQ w' bq room turns L := by
  obtain ⟨v, hq, ho⟩ := h
  refine ⟨v, hq.keep hf (hn bq (.inl rfl)), hf.owns ho (fun b hb => hn b ?_)⟩
  rcases ho.2 with ⟨rfl, _⟩ | ⟨g, cap, cur, rfl, _⟩
  · simp [Value.ownBlock] at hb
  · simp [Value.ownBlock] at hb
    subst hb
    exact .inr ⟨_, _, _, _, hq⟩

set_option maxHeartbeats 400000 in
theorem prio_Len (w : World) (bq : Nat) (room turns : Int) (L : List It) (h : IsQ w bq room turns L) :
    Calls Try.prog 27 #[.pointer (some ⟨bq, 0, none⟩)] w fun e w' => e = .returned (.int .i64 L.length) ∧ w = w' := by
  obtain ⟨A, c, hq⟩ := h.head
  have q2 : w.cell? ⟨bq, 2, none⟩ = some (.slice A L.length c) := hq.cell 2
  go_enter Try.func27, Try.ntmps27
  go_wp2
  go_ret
  exact ⟨rfl, rfl⟩

set_option maxHeartbeats 400000 in
theorem prio_New_ok (w : World) (room : Int) (h1 : 1 ≤ room) (h2 : room ≤ 256) :
    Calls Try.prog 15 #[.int .i64 room] w fun e w' => e = .returned (.tuple #[.pointer (some ⟨w.heap.size, 0, none⟩), .int .i64 0]) ∧ w' = w.alloc (.cells #[.int .i64 room, .int .i64 0, .slice none 0 0] 79) := by
  go_enter Try.func15, Try.ntmps15
  go_wp2
  go_ret2
  exact ⟨rfl, rfl⟩

set_option maxHeartbeats 400000 in
theorem prio_New_no (w : World) (room : Int) (h : room < 1 ∨ 256 < room) :
    Calls Try.prog 15 #[.int .i64 room] w fun e w' => e = .returned (.tuple #[.pointer none, .int .i64 1]) ∧ w = w' := by
  rcases h with h | h
  · go_enter Try.func15, Try.ntmps15
    go_wp2
    go_ret2
    exact ⟨rfl, rfl⟩
  · have h' : ¬ room < 1 := by omega
    go_enter Try.func15, Try.ntmps15
    go_wp2
    go_ret2
    exact ⟨rfl, rfl⟩

theorem IsQ.new (w : World) (room : Int) : IsQ (w.alloc (.cells #[.int .i64 room, .int .i64 0, .slice none 0 0] 79)) w.heap.size room 0 [] :=
  ⟨_, Blk.new w _ _, World.ownsRow_nil _ _ _ _⟩

end Go.Proofs.Ytppnaeedangndaa
