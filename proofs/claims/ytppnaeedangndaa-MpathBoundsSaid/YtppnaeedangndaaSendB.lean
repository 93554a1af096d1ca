/- A sender in the heap: its block, its bucket, its queue; a new one; how many wait. -/
import Derived.Test.YtppnaeedangndaaStamp
import Derived.Test.YtppnaeedangndaaPacer
import Derived.Test.YtppnaeedangndaaPrioH
import Derived.Test.YtppnaeedangndaaWireF
namespace Go.Mm

def zPath : PathS := ⟨0, 0, 0, 0, 0, false, 0, 0, 0, 0, 0, 0, 0, 0, 0⟩

theorem zPath_ok : zPath.Ok := by constructor <;> decide

end Go.Mm
namespace Go.Proofs.Ytppnaeedangndaa
open Go.RowKit Go.Mm Go.Rg

/-- The types of a sender's own blocks. -/
def hotT (T : TypeId) : Prop := T = 64 ∨ T = 76 ∨ T = 79 ∨ T = 81
/-- A block of such a type, from a base on. -/
def Hot (B : Nat) (w : World) (b : Nat) : Prop := (∃ T cs, Blk w b T cs ∧ hotT T) ∧ B ≤ b

theorem Hot.back {B : Nat} {w w1 : World} (h : Fr (Hot B w) w w1) (b : Nat) (hb : b < w.heap.size) (hh : Hot B w1 b) : Hot B w b := by
  by_cases c : Hot B w b
  · exact c
  · obtain ⟨⟨T, cs, hB, hT⟩, hle⟩ := hh
    exact ⟨⟨T, cs, ⟨by rw [← h.block b hb c]; exact hB.eq⟩, hT⟩, hle⟩

theorem Hot.then {B : Nat} {w w1 w2 : World} (h : Fr (Hot B w) w w1) (k : Fr (Hot B w1) w1 w2) : Fr (Hot B w) w w2 := h.then k (fun b hb hh => Hot.back h b hb hh)

theorem Hot.of {B : Nat} {S : Nat → Prop} {w w1 : World} (h : Fr S w w1) (hs : ∀ b, b < w.heap.size → S b → Hot B w b) : Fr (Hot B w) w w1 := h.mono hs

theorem Hot.no {B : Nat} {w w1 : World} (h : Fr (fun _ => False) w w1) : Fr (Hot B w) w w1 := h.mono (fun _ _ e => e.elim)

theorem Hot.blk {B : Nat} {w w1 : World} {b T : Nat} {cs : List Value} (h : Blk w b T cs) (hT : ¬ hotT T) (k : Fr (Hot B w) w w1) : Blk w1 b T cs :=
  h.keep k (fun ⟨⟨T', cs', h', hT'⟩, _⟩ => hT (by rw [(h.same h').1]; exact hT'))

/-- A sender, its own blocks from a base on. -/
structure IsS (B : Nat) (w : World) (bs : Nat) (s : SendS) (k : BuckS) (room turns : Int) (L : List It) : Prop where
  blk : Blk w bs 64 s.cells
  bucket : Blk w s.bk 76 k.cells
  queue : IsQ w s.qu room turns L
  ok0 : s.p0.Ok
  ok1 : s.p1.Ok
  okb : k.Ok
  b0 : B ≤ bs
  b1 : B ≤ s.bk
  b2 : ∀ b, QF w s.qu b → B ≤ b

theorem IsS.hot {B : Nat} {w : World} {bs : Nat} {s : SendS} {k : BuckS} {room turns : Int} {L : List It} (h : IsS B w bs s k room turns L) (b : Nat) (_ : b < w.heap.size) (hb : QF w s.qu b) : Hot B w b := by
  refine ⟨?_, h.b2 b hb⟩
  rcases QF.ty h.queue hb with e | ⟨cs, hB⟩
  · obtain ⟨v, hq, _⟩ := h.queue
    exact ⟨_, _, e ▸ hq, .inr (.inr (.inl rfl))⟩
  · exact ⟨_, _, hB, .inr (.inr (.inr rfl))⟩

theorem QF.back {w w' : World} {bq : Nat} {T : Nat} {cs : List Value} (h : Blk w bq T cs) {S : Nat → Prop} (hf : Fr S w w') (hn : ¬ S bq) {b : Nat} (hb : QF w' bq b) : QF w bq b := by
  rcases hb with e | ⟨r, t, n, c, hB⟩
  · exact .inl e
  · exact .inr ⟨r, t, n, c, ⟨by rw [← hf.block bq h.lt hn]; exact hB.eq⟩⟩

/-- What turns none of a sender's own blocks leaves it as it is. -/
theorem IsS.keepS {B : Nat} {w w' : World} {bs : Nat} {s : SendS} {k : BuckS} {room turns : Int} {L : List It} (h : IsS B w bs s k room turns L) {S : Nat → Prop} (hf : Fr S w w') (hS : ∀ b T cs, Blk w b T cs → S b → ¬ hotT T) : IsS B w' bs s k room turns L := by
  have hq : ∀ b, QF w s.qu b → ¬ S b := fun b hb e => by
    rcases QF.ty h.queue hb with e' | ⟨cs, hB⟩
    · obtain ⟨v, hq, _⟩ := h.queue
      exact hS _ _ _ (e' ▸ hq) e (.inr (.inr (.inl rfl)))
    · exact hS _ _ _ hB e (.inr (.inr (.inr rfl)))
  obtain ⟨v, hqb, _⟩ := id h.queue
  exact ⟨h.blk.keep hf (fun e => hS _ _ _ h.blk e (.inl rfl)), h.bucket.keep hf (fun e => hS _ _ _ h.bucket e (.inr (.inl rfl))), h.queue.keep hf hq, h.ok0, h.ok1, h.okb, h.b0, h.b1,
    fun b hb => h.b2 b (QF.back hqb hf (hq _ (.inl rfl)) hb)⟩

theorem IsS.keep {B : Nat} {w w' : World} {bs : Nat} {s : SendS} {k : BuckS} {room turns : Int} {L : List It} (h : IsS B w bs s k room turns L) (hf : Fr (fun _ => False) w w') : IsS B w' bs s k room turns L :=
  h.keepS hf (fun _ _ _ _ e => e.elim)

/-- .. a block of another type. -/
theorem IsS.keepB {B : Nat} {w w' : World} {bs : Nat} {s : SendS} {k : BuckS} {room turns : Int} {L : List It} (h : IsS B w bs s k room turns L) {b T : Nat} {cs : List Value} (hb : Blk w b T cs) (hT : ¬ hotT T) (hf : Fr (· = b) w w') : IsS B w' bs s k room turns L :=
  h.keepS hf (fun b' T' cs' hB e => by subst e; rw [(hB.same hb).1]; exact hT)

theorem owns_ne {w : World} {base : Nat} {e : TypeId} {size : Nat} {v : Value} {n : Nat} {xs : List Value} (h : w.ownsRow base e size v n xs) {b T : Nat} {cs : List Value} (hb : Blk w b T cs) (hT : T ≠ e) : ∀ g, v.ownBlock = some g → g ≠ b := by
  intro g hg hgb
  rcases h.2 with ⟨rfl, _⟩ | ⟨g', cap, cur, rfl, _, hh, _⟩
  · simp [Value.ownBlock] at hg
  · simp [Value.ownBlock] at hg
    subst hg hgb
    have := hb.eq.symm.trans hh
    simp only [Option.some.injEq, Obj.cells.injEq] at this
    exact hT this.2.1

/-- .. a row of another type. -/
theorem IsS.keepOwn {B : Nat} {w w' : World} {bs : Nat} {s : SendS} {k : BuckS} {room turns : Int} {L : List It} (h : IsS B w bs s k room turns L) {base : Nat} {e : TypeId} {size : Nat} {v : Value} {n : Nat} {xs : List Value} (ho : w.ownsRow base e size v n xs) (hT : ¬ hotT e)
    (hf : Fr (fun b => some b = v.ownBlock) w w') : IsS B w' bs s k room turns L :=
  h.keepS hf (fun _ _ _ hB e' hT' => owns_ne ho hB (fun e => hT (e ▸ hT')) _ e'.symm rfl)

theorem IsS.bucketF {B : Nat} {w w' : World} {bs : Nat} {s : SendS} {k k' : BuckS} {room turns : Int} {L : List It} (h : IsS B w bs s k room turns L) (hk : Blk w' s.bk 76 k'.cells) (ok : k'.Ok) (hf : Fr (· = s.bk) w w') : IsS B w' bs s k' room turns L ∧ Fr (Hot B w) w w' := by
  obtain ⟨v, hqb, _⟩ := id h.queue
  have hq : ∀ b, QF w s.qu b → ¬ b = s.bk := fun b hb e => QF.not h.queue h.bucket (by decide) (h.bucket.ne hqb (by decide)) (e ▸ hb)
  exact ⟨⟨h.blk.keep hf (h.blk.ne h.bucket (by decide)), hk, h.queue.keep hf hq, h.ok0, h.ok1, ok, h.b0, h.b1, fun b hb => h.b2 b (QF.back hqb hf (hq _ (.inl rfl)) hb)⟩,
    Hot.of hf (fun b hb e => ⟨⟨_, _, e ▸ h.bucket, .inr (.inl rfl)⟩, e ▸ h.b1⟩)⟩

theorem IsS.blkF {B : Nat} {w w' : World} {bs : Nat} {s s' : SendS} {k : BuckS} {room turns : Int} {L : List It} (h : IsS B w bs s k room turns L) (hb : Blk w' bs 64 s'.cells) (e1 : s'.bk = s.bk) (e2 : s'.qu = s.qu) (ok0 : s'.p0.Ok) (ok1 : s'.p1.Ok) (hf : Fr (· = bs) w w') : IsS B w' bs s' k room turns L ∧ Fr (Hot B w) w w' := by
  obtain ⟨v, hqb, _⟩ := id h.queue
  have hq : ∀ b, QF w s.qu b → ¬ b = bs := fun b hb e => QF.not h.queue h.blk (by decide) (h.blk.ne hqb (by decide)) (e ▸ hb)
  exact ⟨⟨hb, e1 ▸ h.bucket.keep hf (h.bucket.ne h.blk (by decide)), e2 ▸ h.queue.keep hf hq, ok0, ok1, h.okb, h.b0, e1 ▸ h.b1, fun b hb => h.b2 b (QF.back hqb hf (hq _ (.inl rfl)) (e2 ▸ hb))⟩,
    Hot.of hf (fun b hb e => ⟨⟨_, _, e ▸ h.blk, .inl rfl⟩, e ▸ h.b0⟩)⟩

theorem IsS.queueF {B : Nat} {w w' : World} {bs : Nat} {s : SendS} {k : BuckS} {room turns turns' : Int} {L L' : List It} (h : IsS B w bs s k room turns L) (hq : IsQ w' s.qu room turns' L') (hst : QStep s.qu w w') : IsS B w' bs s k room turns' L' ∧ Fr (Hot B w) w w' := by
  obtain ⟨v, hqb, _⟩ := id h.queue
  exact ⟨⟨h.blk.keep hst.fr (QF.not h.queue h.blk (by decide) (h.blk.ne hqb (by decide))), h.bucket.keep hst.fr (QF.not h.queue h.bucket (by decide) (h.bucket.ne hqb (by decide))), hq, h.ok0, h.ok1, h.okb, h.b0, h.b1, fun b hb => by
      rcases Nat.lt_or_ge b w.heap.size with hl | hl
      · exact h.b2 b (hst.own b hl hb)
      · exact Nat.le_trans (h.b2 s.qu (.inl rfl)) (Nat.le_trans (Nat.le_of_lt hqb.lt) hl)⟩, Hot.of hst.fr (fun b hb e => h.hot b hb e)⟩

theorem IsS.notQ {B : Nat} {w : World} {bs : Nat} {s : SendS} {k : BuckS} {room turns : Int} {L : List It} (h : IsS B w bs s k room turns L) {b T : Nat} {cs : List Value} (hb : Blk w b T cs) (hT : ¬ hotT T) : ¬ QF w s.qu b := by
  refine QF.not h.queue hb (fun e => hT (e ▸ .inr (.inr (.inr rfl)))) ?_
  obtain ⟨v, hqb, _⟩ := h.queue
  exact hb.ne hqb (fun e => hT (e ▸ .inr (.inr (.inl rfl))))

theorem IsS.notQrow {B : Nat} {w : World} {bs : Nat} {s : SendS} {k : BuckS} {room turns : Int} {L : List It} (h : IsS B w bs s k room turns L) {base : Nat} {e : TypeId} {size : Nat} {v : Value} {n : Nat} {xs : List Value} (ho : w.ownsRow base e size v n xs) (hT : ¬ hotT e) :
    ∀ b, v.ownBlock = some b → ¬ QF w s.qu b := by
  intro b hb
  rcases ho.2 with ⟨rfl, _⟩ | ⟨g', cap, cur, rfl, _, hh, _⟩
  · simp [Value.ownBlock] at hb
  · simp [Value.ownBlock] at hb
    subst hb
    exact h.notQ (T := e) (cs := cur.toList) ⟨by simpa using hh⟩ hT

theorem mpath_New (session rate burst room : Int) (w : World) (h0 : 1 ≤ rate) (h1 : rate ≤ 1048576) (h2 : 1 ≤ burst) (h3 : burst ≤ 16777216) (h4 : 1 ≤ room) (h5 : room ≤ 256) :
    Calls Try.prog 6 #[.int .u32 session, .int .i64 rate, .int .i64 burst, .int .i64 room] w fun e w' =>
      ∃ bs bk qu, e = .returned (.tuple #[.pointer (some ⟨bs, 0, none⟩), .int .i64 0]) ∧ IsS w.heap.size w' bs ⟨zPath, zPath, bk, qu, session, 0, 0, 0⟩ ⟨rate, burst, burst, 0, 0⟩ room 0 [] ∧ Fr (fun _ => False) w w' := by
  have PN := Lib.hid (pacer_New rate burst w h0 h1 h2 h3)
  have hko : BuckS.Ok ⟨rate, burst, burst, 0, 0⟩ := by constructor <;> simp only <;> omega
  clear h0 h1 h2 h3
  go_enter Try.func6, Try.ntmps6
  go_upto_region 2 with (go_at_call 14; refine PN.out.mono ?_; rintro e w1 ⟨rfl, hb1, hf1⟩)
  go_wp2_with (go_at_call 15; refine (prio_New_ok w1 room h4 h5).mono ?_; rintro e w2 ⟨rfl, hw2⟩; have hq2 : IsQ w2 w1.heap.size room 0 [] := (by rw [hw2]; exact IsQ.new w1 room); have hf2 : Fr (fun _ => False) w1 w2 := (by rw [hw2]; exact (Fr.refl _ _).alloc _); have hqb : Blk w2 w1.heap.size 79 [.int .i64 room, .int .i64 0, .slice none 0 0] := (by rw [hw2]; exact Blk.new _ _ _); clear hw2)
  go_ret2
  have hb0 : w.heap.size ≤ w2.heap.size := (hf1.trans hf2).size
  have hb2 : ∀ b, QF w2 w1.heap.size b → w.heap.size ≤ b := by
    rintro b (e | ⟨r, t, n, c, hB⟩)
    · subst e; exact hf1.size
    · have := (hqb.same hB).2
      simp [qCells] at this
  have fra : ∀ o, Fr (fun _ => False) w2 (w2.alloc o) := fun o => (Fr.refl _ _).alloc _
  exact ⟨_, w.heap.size, w1.heap.size, rfl, ⟨Blk.new w2 _ _, (hb1.keep hf2 (fun e => e)).alloc _, hq2.keep (S := fun _ => False) (fra _) (fun _ _ e => e), zPath_ok, zPath_ok, hko, hb0, Nat.le_refl _, fun b hb => hb2 b (QF.back hqb (fra _) (fun e => e) hb)⟩, (hf1.trans hf2).alloc _⟩

theorem mpath_Waiting (w : World) (bs : Nat) (s : SendS) (k : BuckS) (room turns : Int) (L : List It) {B : Nat} (h : IsS B w bs s k room turns L) :
    Calls Try.prog 13 #[.pointer (some ⟨bs, 0, none⟩)] w fun e w' => e = .returned (.int .i64 L.length) ∧ w = w' := by
  have h31 : w.cell? ⟨bs, 31, none⟩ = some (.pointer (some ⟨s.qu, 0, none⟩)) := SendS.rest_cell h.blk 1 (by decide)
  have Q := Lib.hid h.queue
  clear h
  go_enter Try.func13, Try.ntmps13
  go_wp2_with (go_at_call 27; refine (prio_Len _ _ _ _ L Q.out).mono ?_; rintro e w1 ⟨rfl, rfl⟩)
  go_ret
  exact ⟨rfl, rfl⟩

end Go.Proofs.Ytppnaeedangndaa
