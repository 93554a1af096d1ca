/- Memory, block by block: Blk (a block's cells, whole), Fr (what a call may have turned), and how stores and new blocks act on them. Program-free. -/
import Derived.WalkKit
import Derived.WalkSpells
import Derived.Lib.Hide
import Derived.WalkLawsBesides
import Derived.Deep.QuietTactic
import Derived.BigQuiet
import Derived.StillTailTactics
namespace Go.Mm
open Go.RowKit

/-- Block b holds these cells, as variables of type T, none of them frozen. -/
structure Blk (w : World) (b : Nat) (T : TypeId) (cs : List Value) : Prop where
  eq : w.heap[b]? = some (.cells cs.toArray T (0, 0))

/-- Nothing but the blocks of S (and new ones) has turned. -/
structure Fr (S : Nat → Prop) (w w' : World) : Prop where
  os : w'.os = w.os
  tape : w'.tape = w.tape
  output : w'.output = w.output
  size : w.heap.size ≤ w'.heap.size
  block : ∀ k, k < w.heap.size → ¬ S k → w'.heap[k]? = w.heap[k]?

theorem Fr.refl (S : Nat → Prop) (w : World) : Fr S w w := ⟨rfl, rfl, rfl, Nat.le_refl _, fun _ _ _ => rfl⟩

theorem Fr.then {S S' : Nat → Prop} {w w1 w2 : World} (h : Fr S w w1) (k : Fr S' w1 w2) (hs : ∀ b, b < w.heap.size → S' b → S b) : Fr S w w2 :=
  ⟨k.os.trans h.os, k.tape.trans h.tape, k.output.trans h.output, Nat.le_trans h.size k.size,
   fun b hb hn => (k.block b (Nat.lt_of_lt_of_le hb h.size) (fun e => hn (hs b hb e))).trans (h.block b hb hn)⟩

theorem Fr.trans {S : Nat → Prop} {w w1 w2 : World} (h : Fr S w w1) (k : Fr S w1 w2) : Fr S w w2 := h.then k (fun _ _ h => h)

theorem Fr.mono {S S' : Nat → Prop} {w w' : World} (h : Fr S w w') (hs : ∀ b, b < w.heap.size → S b → S' b) : Fr S' w w' :=
  ⟨h.os, h.tape, h.output, h.size, fun k hk hn => h.block k hk (fun e => hn (hs k hk e))⟩

theorem Fr.drew {S : Nat → Prop} {w w' : World} (h : Fr S w w') : Fr S w w'.drew := ⟨h.os, h.tape, h.output, h.size, h.block⟩

theorem Fr.drewN {S : Nat → Prop} {w w' : World} (h : Fr S w w') (n : Nat) : Fr S w (w'.drewN n) := ⟨h.os, h.tape, h.output, h.size, h.block⟩

theorem Fr.alloc {S : Nat → Prop} {w w' : World} (h : Fr S w w') (o : Obj) : Fr S w (w'.alloc o) :=
  ⟨h.os, h.tape, h.output, by have := h.size; simp; omega, fun k hk hn => (Below.heap_alloc _ _ _ (Nat.lt_of_lt_of_le hk h.size)).trans (h.block k hk hn)⟩

theorem Fr.setCell {S : Nat → Prop} {w w' : World} (h : Fr S w w') (a : Addr) (v : Value) (ha : S a.block ∨ w.heap.size ≤ a.block) : Fr S w (w'.setCell a v) :=
  ⟨h.os, h.tape, h.output, by have := h.size; simpa [World.setCell] using this, fun k hk hn => by
    refine (Below.heap_setCell _ _ _ _ ?_).trans (h.block k hk hn)
    rcases ha with ha | ha
    · intro e; subst e; exact hn ha
    · omega⟩

theorem Fr.of_grown {w w' : World} {row : Option Nat} (h : w.grownBy w' row) : Fr (fun k => some k = row) w w' := ⟨h.os, h.tape, h.output, h.size, h.block⟩

theorem Fr.of_below {w w' : World} (h : Below w.heap.size w w') : Fr (fun _ => False) w w' := ⟨h.os, h.tape, h.output, h.size, fun k hk _ => h.block k hk⟩

theorem Fr.below {w w' : World} (h : Fr (fun _ => False) w w') : Below w.heap.size w w' := ⟨h.os, h.tape, h.output, h.size, fun k hk => h.block k hk (fun e => e)⟩

theorem Blk.lt {w : World} {b : Nat} {T : TypeId} {cs : List Value} (h : Blk w b T cs) : b < w.heap.size := (Array.getElem?_eq_some_iff.1 h.eq).1

theorem Blk.keep {w w' : World} {b : Nat} {T : TypeId} {cs : List Value} {S : Nat → Prop} (h : Blk w b T cs) (k : Fr S w w') (hn : ¬ S b) : Blk w' b T cs :=
  ⟨(k.block b h.lt hn).trans h.eq⟩

theorem Blk.same {w : World} {b : Nat} {T T' : TypeId} {cs cs' : List Value} (h : Blk w b T cs) (h' : Blk w b T' cs') : T = T' ∧ cs = cs' := by
  have := h.eq.symm.trans h'.eq
  simp only [Option.some.injEq, Obj.cells.injEq] at this
  exact ⟨this.2.1, by simpa using this.1⟩

theorem Blk.ne {w : World} {b b' : Nat} {T T' : TypeId} {cs cs' : List Value} (h : Blk w b T cs) (h' : Blk w b' T' cs') (hT : T ≠ T') : b ≠ b' := by
  intro e; subst e; exact hT (h.same h').1

theorem Blk.cell {w : World} {b : Nat} {T : TypeId} {cs : List Value} (h : Blk w b T cs) (i : Nat) : w.cell? ⟨b, i, none⟩ = cs[i]? := by
  simp [World.cell?, h.eq]

theorem Blk.free {w : World} {b : Nat} {T : TypeId} {cs : List Value} (h : Blk w b T cs) (i : Nat) : w.frozen? ⟨b, i, none⟩ = false := by
  simp [World.frozen?, h.eq]

theorem Blk.drew {w : World} {b : Nat} {T : TypeId} {cs : List Value} (h : Blk w b T cs) : Blk w.drew b T cs := ⟨h.eq⟩

theorem Blk.drewN {w : World} {b : Nat} {T : TypeId} {cs : List Value} (h : Blk w b T cs) (n : Nat) : Blk (w.drewN n) b T cs := ⟨h.eq⟩

theorem Blk.alloc {w : World} {b : Nat} {T : TypeId} {cs : List Value} (h : Blk w b T cs) (o : Obj) : Blk (w.alloc o) b T cs :=
  ⟨(Below.heap_alloc _ _ _ h.lt).trans h.eq⟩

theorem Blk.new (w : World) (T : TypeId) (cs : List Value) : Blk (w.alloc (.cells cs.toArray T)) w.heap.size T cs := ⟨heap_alloc_new w _⟩

theorem Blk.new_at (w : World) (b : Nat) (T : TypeId) (cs : List Value) (h : b = w.heap.size) : Blk (w.alloc (.cells cs.toArray T)) b T cs := h ▸ Blk.new w T cs

theorem Blk.setCell_ne {w : World} {b : Nat} {T : TypeId} {cs : List Value} (h : Blk w b T cs) (a : Addr) (v : Value) (hn : b ≠ a.block) : Blk (w.setCell a v) b T cs :=
  ⟨(Below.heap_setCell _ _ _ _ hn).trans h.eq⟩

theorem Blk.setCell {w : World} {b : Nat} {T : TypeId} {cs : List Value} (h : Blk w b T cs) (i : Nat) (v : Value) : Blk (w.setCell ⟨b, i, none⟩ v) b T (cs.set i v) :=
  ⟨by rw [heap_setCell_same w b i _ T v h.eq]; simp⟩

/-- The block's cells from o on are cs. -/
structure Seg (w : World) (b : Nat) (T : TypeId) (o : Nat) (pre cs post : List Value) : Prop where
  blk : Blk w b T (pre ++ cs ++ post)
  off : pre.length = o

theorem Seg.cell {w : World} {b : Nat} {T : TypeId} {o : Nat} {pre cs post : List Value} (h : Seg w b T o pre cs post) (i : Nat) (hi : i < cs.length) :
    w.cell? ⟨b, o + i, none⟩ = cs[i]? := by
  rw [h.blk.cell, ← h.off, List.append_assoc, List.getElem?_append_right (by omega)]
  simp [List.getElem?_append_left hi]

theorem Seg.cell0 {w : World} {b : Nat} {T : TypeId} {o : Nat} {pre cs post : List Value} (h : Seg w b T o pre cs post) (hi : 0 < cs.length) :
    w.cell? ⟨b, o, none⟩ = cs[0]? := h.cell 0 hi

theorem Seg.setCell {w : World} {b : Nat} {T : TypeId} {o : Nat} {pre cs post : List Value} (h : Seg w b T o pre cs post) (i : Nat) (v : Value) (hi : i < cs.length) :
    Seg (w.setCell ⟨b, o + i, none⟩ v) b T o pre (cs.set i v) post := by
  refine ⟨?_, h.off⟩
  have := h.blk.setCell (o + i) v
  rw [← h.off] at this ⊢
  rw [List.append_assoc, List.set_append_right _ _ (by omega), Nat.add_sub_cancel_left, List.set_append_left _ _ hi, ← List.append_assoc] at this
  exact this

theorem Seg.setCell0 {w : World} {b : Nat} {T : TypeId} {o : Nat} {pre cs post : List Value} (h : Seg w b T o pre cs post) (v : Value) (hi : 0 < cs.length) :
    Seg (w.setCell ⟨b, o, none⟩ v) b T o pre (cs.set 0 v) post := h.setCell 0 v hi

theorem Seg.setCell_ne {w : World} {b : Nat} {T : TypeId} {o : Nat} {pre cs post : List Value} (h : Seg w b T o pre cs post) (a : Addr) (v : Value) (hn : b ≠ a.block) :
    Seg (w.setCell a v) b T o pre cs post := ⟨h.blk.setCell_ne a v hn, h.off⟩

theorem Seg.alloc {w : World} {b : Nat} {T : TypeId} {o : Nat} {pre cs post : List Value} (h : Seg w b T o pre cs post) (x : Obj) : Seg (w.alloc x) b T o pre cs post := ⟨h.blk.alloc x, h.off⟩
theorem Seg.drew {w : World} {b : Nat} {T : TypeId} {o : Nat} {pre cs post : List Value} (h : Seg w b T o pre cs post) : Seg w.drew b T o pre cs post := ⟨h.blk.drew, h.off⟩
theorem Seg.drewN {w : World} {b : Nat} {T : TypeId} {o : Nat} {pre cs post : List Value} (h : Seg w b T o pre cs post) (n : Nat) : Seg (w.drewN n) b T o pre cs post := ⟨h.blk.drewN n, h.off⟩
theorem Seg.keep {w w' : World} {b : Nat} {T : TypeId} {o : Nat} {pre cs post : List Value} {S : Nat → Prop} (h : Seg w b T o pre cs post) (k : Fr S w w') (hn : ¬ S b) : Seg w' b T o pre cs post :=
  ⟨h.blk.keep k hn, h.off⟩
theorem Seg.free {w : World} {b : Nat} {T : TypeId} {o : Nat} {pre cs post : List Value} (h : Seg w b T o pre cs post) (i : Nat) : w.frozen? ⟨b, i, none⟩ = false := h.blk.free i

end Go.Mm
