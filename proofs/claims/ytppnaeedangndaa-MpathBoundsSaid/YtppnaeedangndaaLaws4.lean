/- A slice literal of one struct. Program-free. -/
import Derived.Test.YtppnaeedangndaaLaws3
import Derived.Great.BuildSlice
namespace Go.Mm
open Go.RowKit Go.Rg
section
variable {P : Program} {ops : Array Oper} {C : World → Prop} {kd : Nat → Nat} {o : Oper} {a : Act} {w : World} {rest : List Oper}

theorem fill_one (vs : List Value) (n : Nat) (hn : 0 < n) (hl : vs.length = n) (cells : Array Value) (hc : cells.size = n) :
    Instr.fill (fun i => some (i * n, n)) cells [(0, .agg vs.toArray)] = some vs.toArray := by
  have h := Great.fill_whole (s := n) hn [.agg vs.toArray] cells (by intro v hv; simp at hv; subst hv; simpa [Value.cells] using hl) (by simpa using hc.symm)
  simpa [Value.cells] using h

theorem wp_build1 {K : Act → World → Prop} {Q : Exit → Act → World → Prop} (t e : TypeId) (x : Operand) (ho : o.op = .buildSlice t 1 #[(0, x)]) (ie : TypeInfo) (z : Value) (n : Nat)
    (hu : P.underlying t = some (.slice e)) (hie : P.info? e = some ie) (hz : ie.zero = some z) (hsize : ie.size = n) (hn : 0 < n) (hsm : n ≤ 16777216) (vs : List Value) (hx : a.eval x = .agg vs.toArray) (hl : vs.length = n)
    (h : K (a.put o.dst (.slice (some ⟨w.heap.size, 0, none⟩) 1 1)) (w.alloc (.cells vs.toArray e))) : o.wp P a w K Q := by
  subst hsize
  refine wp_buildSlice t e 1 _ ho vs.toArray ie z hu hie hz (by omega) (by omega) ?_ h
  simp only [List.map_toArray, List.map_cons, List.map_nil, hx]
  exact fill_one vs ie.size hn hl _ (by simp)

theorem wpList_build1 {Q : Exit → Act → World → Prop} (hg : o.guard = none) (t e : TypeId) (x : Operand) (ho : o.op = .buildSlice t 1 #[(0, x)]) (ie : TypeInfo) (z : Value) (n : Nat)
    (hu : P.underlying t = some (.slice e)) (hie : P.info? e = some ie) (hz : ie.zero = some z) (hsize : ie.size = n) (hn : 0 < n) (hsm : n ≤ 16777216) (vs : List Value) (hx : a.eval x = .agg vs.toArray) (hl : vs.length = n)
    (h : wpList P ops Q rest (a.put o.dst (.slice (some ⟨w.heap.size, 0, none⟩) 1 1)) (w.alloc (.cells vs.toArray e))) : wpList P ops Q (o :: rest) a w :=
  wpList_plain hg fun _ hK => wp_build1 t e x ho ie z n hu hie hz hsize hn hsm vs hx hl (hK _ _ h)
end
end Go.Mm
