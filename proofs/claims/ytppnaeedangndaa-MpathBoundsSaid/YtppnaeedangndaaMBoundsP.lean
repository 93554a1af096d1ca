/- MpathBounds: outside its sizes; the script that came in. -/
import Derived.Test.YtppnaeedangndaaMBounds
import Derived.Test.YtppnaeedangndaaRead
namespace Go.Proofs.Ytppnaeedangndaa
open Go.RowKit Go.Mm Go.Rg Go.Deep

set_option maxRecDepth 100000 in
set_option maxHeartbeats 1600000 in
theorem law15_Bounds_no (w : World) (rate burst room : Int) (v : Value) (h : ¬ (1 ≤ rate ∧ rate ≤ 100000 ∧ 1 ≤ burst ∧ burst ≤ 100000 ∧ 1 ≤ room ∧ room ≤ 256)) :
    Calls Try.prog 4 #[.agg #[.int .i64 rate, .int .i64 burst, .int .i64 room], v] w fun e w' => e = .returned (.bool true) ∧ Fr (fun _ => False) w w' := by
  have hp : rate < 1 ∨ (1 ≤ rate ∧ 100000 < rate) ∨ (1 ≤ rate ∧ rate ≤ 100000 ∧ burst < 1) ∨ (1 ≤ rate ∧ rate ≤ 100000 ∧ 1 ≤ burst ∧ 100000 < burst) ∨ (1 ≤ rate ∧ rate ≤ 100000 ∧ 1 ≤ burst ∧ burst ≤ 100000 ∧ room < 1) ∨ (1 ≤ rate ∧ rate ≤ 100000 ∧ 1 ≤ burst ∧ burst ≤ 100000 ∧ 1 ≤ room ∧ 256 < room) := by omega
  clear h
  rcases hp with h1 | ⟨h1, h2⟩ | ⟨h1, h2, h3⟩ | ⟨h1, h2, h3, h4⟩ | ⟨h1, h2, h3, h4, h5⟩ | ⟨h1, h2, h3, h4, h5, h6⟩
  all_goals
    go_enter Try.func4, Try.ntmps4
    go_upto_region 3 with (go_at_call 5; refine (law15_awake _).mono ?_; rintro e w1 ⟨rfl, hf1⟩)
    have hz1 : Blk w1 w.heap.size 23 [.int .i64 rate, .int .i64 burst, .int .i64 room] := Blk.keep (S := fun _ => False) (Blk.new w _ _) hf1 (fun e => e)
    have k0 : w1.cell? ⟨w.heap.size, 0, none⟩ = some (.int .i64 rate) := hz1.cell 0
    have k1 : w1.cell? ⟨w.heap.size, 1, none⟩ = some (.int .i64 burst) := hz1.cell 1
    have k2 : w1.cell? ⟨w.heap.size, 2, none⟩ = some (.int .i64 room) := hz1.cell 2
    have HF1 := Lib.hid (((Fr.refl (fun _ => False) w).alloc (.cells #[.int .i64 rate, .int .i64 burst, .int .i64 room] 23)).trans hf1)
    clear hf1 hz1
    go_wp2
    go_ret
    exact ⟨rfl, HF1.out⟩

theorem cells_op : Try.prog.cellsOf 43 = 16 := by kernel_rfl

theorem op_at {H : Type} {enc : TypeId × Value → H} {w : World} {base : Nat} {held : Bool} {fuel : Nat} {cs : List Value} {x : DataW H × List MemPlace} (h : DataW.trod enc Try.prog w base (fun _ => true) held fuel 43 cs = some x) :
    ∃ op : OpS, cs = op.cells ∧ ∃ l, DataAt w op.d.da op.d.dl l := by
  obtain ⟨hl, hf⟩ := struct_get Try.underlying43 h
  rw [cells_op] at hl
  obtain ⟨_, _, f0⟩ := hf 0 _ rfl
  obtain ⟨_, _, f1⟩ := hf 1 _ rfl
  obtain ⟨_, _, f2⟩ := hf 2 _ rfl
  obtain ⟨_, _, f3⟩ := hf 3 _ rfl
  obtain ⟨_, _, f4⟩ := hf 4 _ rfl
  obtain ⟨_, _, f5⟩ := hf 5 _ rfl
  obtain ⟨n0, e0, _⟩ := int_get Try.underlying3 f0
  obtain ⟨n1, e1, _⟩ := int_get Try.underlying3 f1
  obtain ⟨d, e2, hd, _⟩ := dg_at f2
  obtain ⟨n3, e3, _⟩ := int_get Try.underlying3 f3
  obtain ⟨n4, e4, _⟩ := int_get Try.underlying3 f4
  obtain ⟨n5, e5, _⟩ := int_get Try.underlying30 f5
  refine ⟨⟨n0, n1, d, n3, n4, n5⟩, ?_, hd⟩
  have e0 : (cs.drop 0).take (Try.prog.cellsOf 3) = [.int .i64 n0] := e0
  have e1 : (cs.drop 1).take (Try.prog.cellsOf 3) = [.int .i64 n1] := e1
  have e2 : (cs.drop 2).take (Try.prog.cellsOf 34) = d.cells := e2
  have e3 : (cs.drop 13).take (Try.prog.cellsOf 3) = [.int .i64 n3] := e3
  have e4 : (cs.drop 14).take (Try.prog.cellsOf 3) = [.int .i64 n4] := e4
  have e5 : (cs.drop 15).take (Try.prog.cellsOf 30) = [.int .u32 n5] := e5
  rw [cells_int] at e0 e1 e3 e4
  rw [cells_dg] at e2
  rw [cells_u32] at e5
  have h1 : ∀ (l : List Value) (a b c : Nat), a + b = c → l.drop a = (l.drop a).take b ++ l.drop c := fun l a b c e => by
    rw [← e, ← List.drop_drop, List.take_append_drop]
  have hs : cs = cs.take 1 ++ ((cs.drop 1).take 1 ++ ((cs.drop 2).take 11 ++ ((cs.drop 13).take 1 ++ ((cs.drop 14).take 1 ++ (cs.drop 15).take 1)))) := by
    rw [show (cs.drop 15).take 1 = cs.drop 15 from List.take_of_length_le (by rw [List.length_drop, hl]; exact Nat.le_refl 1), ← h1 cs 14 1 15 rfl, ← h1 cs 13 1 14 rfl, ← h1 cs 2 11 13 rfl, ← h1 cs 1 1 2 rfl, List.take_append_drop]
  rw [hs]
  rw [show cs.take 1 = [Value.int .i64 n0] from e0, e1, e2, e3, e4, e5]
  rfl

theorem ops_at {H : Type} {enc : TypeId × Value → H} {w : World} {held : Bool} {fuel : Nat} {v : Value} {x : DataW H × List MemPlace} (h : DataW.trod enc Try.prog w 0 (fun _ => true) held fuel 40 v.cells.toList = some x) :
    ∃ (a : Option Addr) (c : Nat) (ops : List OpS) (b o : Nat), v.cells.toList = [.slice a ops.length c] ∧ ops.length ≤ 9223372036854775807 ∧ (0 < ops.length → a = some ⟨b, o, none⟩ ∧ ScriptAt w b o ops) := by
  rcases open_slice Try.underlying40 h with ⟨hv, _⟩ | ⟨a, len, cap, m, n, D, Pl, hv, _, hl, hm, hmm, _, hx⟩
  · exact ⟨none, 0, [], 0, 0, hv, Nat.zero_le _, fun h => by simp at h⟩
  · simp only [if_true] at hmm
    subst hmm
    rw [cells_op] at hx
    have hmx : m ≤ 9223372036854775807 := by unfold maxLen at hm; omega
    have hop : ∀ i, ∃ op : OpS, i < len → (∀ j, j < 16 → w.cell? ((a.add (i * 16)).add j) = op.cells[j]?) ∧ ∃ l, DataAt w op.d.da op.d.dl l := fun i => by
      by_cases hi : i < len
      · obtain ⟨cs, hc, ht⟩ := hx i (by omega)
        obtain ⟨op, rfl, hd⟩ := op_at ht
        obtain ⟨_, _, hcell⟩ := World.cells?_some hc
        exact ⟨op, fun _ => ⟨hcell, hd⟩⟩
      · exact ⟨⟨0, 0, default, 0, 0, 0⟩, fun h => absurd h hi⟩
    obtain ⟨f, hf⟩ := Classical.axiomOfChoice hop
    refine ⟨some a, m, (List.range len).map f, a.block, a.off, by rw [List.length_map, List.length_range]; exact hv, by simp; omega, fun h0 => ?_⟩
    simp only [List.length_map, List.length_range] at h0
    obtain ⟨b, o, sp⟩ := a
    have h1 := (hf 0 h0).1 0 (by omega)
    have hsp : sp = none := by
      have h2 : w.cell? ⟨b, o, sp⟩ = some (.int .i64 (f 0).kind) := by simpa [Addr.add, OpS.cells] using h1
      exact World.cell?_spot h2
    subst hsp
    have e : ∀ (o : Nat) j, (⟨b, o, none⟩ : Addr).add j = ⟨b, o + j, none⟩ := fun o j => by unfold Addr.add; split <;> simp_all
    refine ⟨rfl, ⟨fun i hi => ?_, fun i hi => ?_⟩⟩
    · simp only [List.length_map, List.length_range] at hi
      intro j hj
      have h2 := (hf i hi).1 j hj
      rw [e, e] at h2
      rw [h2]
      simp
    · simp only [List.length_map, List.length_range] at hi
      have h2 := (hf i hi).2
      simpa using h2

end Go.Proofs.Ytppnaeedangndaa
