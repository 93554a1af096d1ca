/- The data of the ways: datagrams, waiting items, ways, buckets, as cells. Plain definitions. -/
import Derived.Test.YtppnaeedangndaaLaws
import Derived.Test.YtppnaeedangndaaHeap
namespace Go.Mm

/-- A datagram; its data is a slice: where, how long, of what capacity. -/
structure DG where
  (kind session seq path tick a b k m index : Int)
  da : Option Addr
  (dl dc : Nat)

def DG.cells (d : DG) : List Value :=
  [.int .i64 d.kind, .int .u32 d.session, .int .u32 d.seq, .int .i64 d.path, .int .u32 d.tick, .int .u32 d.a, .int .u32 d.b, .int .i64 d.k, .int .i64 d.m, .int .i64 d.index, .slice d.da d.dl d.dc]

theorem DG.length_cells (d : DG) : d.cells.length = 11 := rfl

/-- One that waits. -/
structure It where
  (rank turn : Int)
  d : DG

def It.cells (x : It) : List Value :=
  [.int .i64 x.rank, .int .i64 x.turn, .int .i64 x.d.kind, .int .u32 x.d.session, .int .u32 x.d.seq, .int .i64 x.d.path, .int .u32 x.d.tick, .int .u32 x.d.a, .int .u32 x.d.b, .int .i64 x.d.k, .int .i64 x.d.m, .int .i64 x.d.index, .slice x.d.da x.d.dl x.d.dc]

theorem It.length_cells (x : It) : x.cells.length = 13 := rfl

instance : Inhabited DG := ⟨⟨0, 0, 0, 0, 0, 0, 0, 0, 0, 0, none, 0, 0⟩⟩
instance : Inhabited It := ⟨⟨0, 0, default⟩⟩

def flat (l : List It) : List Value := l.flatMap It.cells

theorem length_flat (l : List It) : (flat l).length = l.length * 13 := by
  induction l with
  | nil => rfl
  | cons x l ih => simp only [flat, List.flatMap_cons, List.length_append, It.length_cells] at *; rw [ih]; simp; omega

theorem flat_get (l : List It) (r : List Value) (i k : Nat) (hi : i < l.length) (hk : k < 13) : (flat l ++ r)[i * 13 + k]? = (Hp.nth l i).cells[k]? := by
  induction l generalizing i with
  | nil => simp at hi
  | cons x l ih =>
    have e : flat (x :: l) = x.cells ++ flat l := rfl
    rw [e, List.append_assoc]
    cases i with
    | zero =>
      rw [List.getElem?_append_left (by rw [It.length_cells]; omega)]
      simp [Hp.nth]
    | succ i =>
      rw [List.getElem?_append_right (by rw [It.length_cells]; omega), It.length_cells]
      have : (i + 1) * 13 + k - 13 = i * 13 + k := by omega
      rw [this, ih i (by simpa using hi)]
      simp [Hp.nth]

theorem flat_split (l : List It) (i : Nat) (hi : i < l.length) : flat l = flat (l.take i) ++ (Hp.nth l i).cells ++ flat (l.drop (i + 1)) := by
  have h : l = l.take i ++ [Hp.nth l i] ++ l.drop (i + 1) := by
    rw [Hp.nth_eq _ _ hi]
    simp
  conv => lhs; rw [h]
  simp [flat, List.flatMap_append]

theorem flat_set (l : List It) (i : Nat) (x : It) (r : List Value) (hi : i < l.length) : splice (flat l ++ r) (i * 13) x.cells = flat (l.set i x) ++ r := by
  have h1 := flat_split l i hi
  have h2 := flat_split (l.set i x) i (by simpa using hi)
  have e1 : (l.set i x).take i = l.take i := by simp [List.take_set_of_le]
  have e2 : (l.set i x).drop (i + 1) = l.drop (i + 1) := by simp [List.drop_set_of_lt]
  have e3 : Hp.nth (l.set i x) i = x := by rw [Hp.nth_set _ _ _ _ hi, if_pos rfl]
  rw [e1, e2, e3] at h2
  have hl : (flat (l.take i)).length = i * 13 := by rw [length_flat]; simp; omega
  rw [h1, h2, List.append_assoc _ _ r, splice_mid _ _ _ _ _ hl (by rw [It.length_cells, It.length_cells])]
  simp only [List.append_assoc]

theorem reads_item {w : World} {b T : Nat} {L : List It} {sp : List Value} (h : Blk w b T (flat L ++ sp)) (i : Nat) (hi : i < L.length) : Reads w b (i * 13) (Hp.nth L i).cells :=
  Reads.of_blk h _ _ (fun j hj => flat_get L sp i j hi (by simpa [It.length_cells] using hj))

theorem It.one (x : It) : ∀ u ∈ x.cells, u.oneCell' = true := by intro u hu; simp [It.cells] at hu; rcases hu with h | h | h | h | h | h | h | h | h | h | h | h | h <;> subst h <;> rfl

theorem DG.one (x : DG) : ∀ u ∈ x.cells, u.oneCell' = true := by intro u hu; simp [DG.cells] at hu; rcases hu with h | h | h | h | h | h | h | h | h | h | h <;> subst h <;> rfl

/-- A way. -/
structure PathS where
  (loss rtt var marks trips : Int)
  any : Bool
  (top bits came twice lost quiet probe gap next : Int)

def PathS.cells (p : PathS) : List Value :=
  [.int .i64 p.loss, .int .i64 p.rtt, .int .i64 p.var, .int .i64 p.marks, .int .i64 p.trips, .bool p.any, .int .u32 p.top, .int .u64 p.bits, .int .i64 p.came, .int .i64 p.twice, .int .i64 p.lost,
   .int .i64 p.quiet, .int .i64 p.probe, .int .i64 p.gap, .int .u32 p.next]

theorem PathS.length_cells (p : PathS) : p.cells.length = 15 := rfl

/-- The part of a way that is its statistics. -/
def PathS.stats (p : PathS) : List Value := [.int .i64 p.loss, .int .i64 p.rtt, .int .i64 p.var, .int .i64 p.marks, .int .i64 p.trips]

/-- A way's numbers are as they may be. -/
structure PathS.Ok (p : PathS) : Prop where
  rtt0 : 0 ≤ p.rtt
  rtt1 : p.rtt ≤ 1000000000
  quiet0 : 0 ≤ p.quiet
  quiet1 : p.quiet ≤ 1073741824
  probe0 : 0 ≤ p.probe
  probe1 : p.probe ≤ 80
  gap0 : 0 ≤ p.gap
  gap1 : p.gap ≤ 80

end Go.Mm
