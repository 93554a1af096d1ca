/- Laws for loads and stores of whole structs, on blocks whose cells are known as a list; in a walk and in a region that draws. Program-free. -/
import Derived.Test.YtppnaeedangndaaMem
import Derived.Test.YtppnaeedangndaaReg
namespace Go.Mm
open Go.RowKit Go.Rg

/-- From this address on these cells are read. -/
def Reads (w : World) (b o : Nat) (vs : List Value) : Prop := ∀ j, j < vs.length → w.cell? ⟨b, o + j, none⟩ = vs[j]?

theorem Reads.of_blk {w : World} {b T : Nat} {cs : List Value} (h : Blk w b T cs) (o : Nat) (vs : List Value) (hv : ∀ j, j < vs.length → cs[o + j]? = vs[j]?) : Reads w b o vs :=
  fun j hj => by rw [h.cell]; exact hv j hj

theorem Reads.whole {w : World} {b T : Nat} {cs : List Value} (h : Blk w b T cs) : Reads w b 0 cs := fun j _ => by rw [h.cell]; simp

theorem Reads.of_seg {w : World} {b T o : Nat} {pre cs post : List Value} (h : Seg w b T o pre cs post) : Reads w b o cs := fun j hj => h.cell j hj

theorem Reads.drew {w : World} {b o : Nat} {vs : List Value} (h : Reads w b o vs) : Reads w.drew b o vs := h

def isAggD : TypeDesc → Bool
  | .struct _ | .array _ _ => true
  | _ => false

section
variable {P : Program}

theorem run_isAgg_true {ty : TypeId} {d : TypeDesc} (hu : P.underlying ty = some d) (hd : isAggD d = true) (w : World) : (isAgg ty).run P w = .ok true w := by
  unfold isAgg
  rw [Sem.run_bind, run_underlying hu w]
  cases d <;> simp_all [isAggD]

theorem run_loadAt_agg {ty : TypeId} {d : TypeDesc} {w : World} {b o : Nat} {vs : List Value} (hu : P.underlying ty = some d) (hd : isAggD d = true) (hi : (P.info? ty).map (·.size) = some vs.length) (h : Reads w b o vs) :
    (Instr.loadAt ty (.pointer (some ⟨b, o, none⟩))).run P w = .ok (.agg vs.toArray) w := by
  have hl : (loadCells ⟨b, o, none⟩ vs.length).run P w = .ok vs.toArray w :=
    run_loadCells_list (P := P) w ⟨b, o, none⟩ vs (fun j v hv => by
      have hadd : (⟨b, o, none⟩ : Addr).add j = ⟨b, o + j, none⟩ := by unfold Addr.add; split <;> simp_all
      have hj : j < vs.length := (List.getElem?_eq_some_iff.1 hv).1
      rw [hadd, h j hj]
      exact hv)
  cases hq : P.info? ty with
  | none => simp [hq] at hi
  | some i =>
    have hs : i.size = vs.length := by simpa [hq] using hi
    simp [Instr.loadAt, Instr.sureAddr, loadVar, Sem.run_bind, run_isAgg_true hu hd, sizeOf, typeInfo, hq, hs, hl]

/-- cs with vs from o on. -/
def splice (cs : List Value) (o : Nat) (vs : List Value) : List Value := cs.take o ++ vs ++ cs.drop (o + vs.length)

theorem splice_mid (A M B V : List Value) (o : Nat) (ho : A.length = o) (h : M.length = V.length) : splice (A ++ M ++ B) o V = A ++ V ++ B := by
  subst ho
  have e1 : (A ++ M ++ B).take A.length = A := by rw [List.append_assoc]; exact List.take_left
  have e2 : (A ++ M ++ B).drop (A.length + V.length) = B := by
    rw [← h, ← List.length_append]; exact List.drop_left
  unfold splice
  rw [e1, e2]

theorem splice_whole (cs vs : List Value) (h : cs.length = vs.length) : splice cs 0 vs = vs := by
  unfold splice
  simp only [List.take_zero, List.nil_append, Nat.zero_add]
  rw [List.drop_of_length_le (by omega), List.append_nil]

theorem run_storeAt_agg {ty : TypeId} {w : World} {b T o : Nat} {cs vs : List Value} (hi : (P.info? ty).map (·.size) = some vs.length) (h : Blk w b T cs) (hl : o + vs.length ≤ cs.length) (h1 : ∀ u ∈ vs, u.oneCell' = true) :
    ∃ w', (Instr.storeAt ty (.pointer (some ⟨b, o, none⟩)) (.agg vs.toArray)).run P w = .ok () w' ∧ Blk w' b T (splice cs o vs) ∧ Fr (· = b) w w' := by
  have hst := run_storeCells_at P b o T vs 0 cs.toArray w h.eq (by simpa using hl) h1
  simp only [Nat.add_zero] at hst
  cases hq : P.info? ty with
  | none => simp [hq] at hi
  | some i =>
    have hs : i.size = vs.length := by simpa [hq] using hi
    refine ⟨_, ?_, ⟨setRow_heap w b _ _ T _ h.eq⟩, ⟨rfl, rfl, rfl, by simp, fun k _ hk => setRow_other w b k _ hk⟩⟩
    simp [Instr.storeAt, Instr.sureAddr, storeVar, Sem.run_bind, sizeOf, typeInfo, hq, hs, Value.cells, hst, splice]

variable {ops : Array Oper} {C : World → Prop} {kd : Nat → Nat} {o : Oper} {a : Act} {w : World} {rest : List Oper}

theorem exec_load {ty : TypeId} {x : Operand} {d : TypeDesc} {b off : Nat} {vs : List Value} (ho : o.op = .load ty x) (hx : a.eval x = .pointer (some ⟨b, off, none⟩)) (hu : P.underlying ty = some d) (hd : isAggD d = true)
    (hi : (P.info? ty).map (·.size) = some vs.length) (h : Reads w b off vs) : (execOp a.eval o).run P w = .ok (.value (.agg vs.toArray)) w := by
  unfold execOp
  simp only [ho, hx]
  rw [Sem.run_bind, run_loadAt_agg hu hd hi h]
  rfl

theorem exec_store {ty : TypeId} {x y : Operand} {b T off : Nat} {cs vs : List Value} (ho : o.op = .store ty x y) (hx : a.eval x = .pointer (some ⟨b, off, none⟩)) (hy : a.eval y = .agg vs.toArray)
    (hi : (P.info? ty).map (·.size) = some vs.length) (h : Blk w b T cs) (hl : off + vs.length ≤ cs.length) (h1 : ∀ u ∈ vs, u.oneCell' = true) :
    ∃ w', (execOp a.eval o).run P w = .ok .skip w' ∧ Blk w' b T (splice cs off vs) ∧ Fr (· = b) w w' := by
  obtain ⟨w', hr, hb, hf⟩ := run_storeAt_agg hi h hl h1
  refine ⟨w', ?_, hb, hf⟩
  unfold execOp
  simp only [ho, hx, hy]
  rw [Sem.run_bind, hr]
  rfl

/-- A result that lies in memory. -/
theorem results_cell_agg {fn : Func} {p : Tmp} {ty : TypeId} (h : fn.results = #[.cell p ty]) (tmps : Array Value) (w : World) (b off : Nat) (vs : List Value) (hp : tmps.getD p undef = .pointer (some ⟨b, off, none⟩)) (hr : Reads w b off vs)
    {d : TypeDesc} (hu : P.underlying ty = some d) (hd : isAggD d = true) (hi : (P.info? ty).map (·.size) = some vs.length) : (results fn tmps).run P w = .ok (.agg vs.toArray) w := by
  have hl := run_loadAt_agg (P := P) hu hd hi hr
  simp only [Instr.loadAt, Instr.sureAddr] at hl
  have hp' : tmps[p]?.getD undef = .pointer (some ⟨b, off, none⟩) := by simpa using hp
  have hl' : (loadVar ty ⟨b, off, none⟩).run P w = .ok (.agg vs.toArray) w := hl
  simp [results, h, hp', asAddr, hl']

/-- A struct is loaded, in a walk. -/
theorem wpList_load_agg {Q : Exit → Act → World → Prop} (hg : o.guard = none) (ty : TypeId) (x : Operand) (ho : o.op = .load ty x) (b off : Nat) (hx : a.eval x = .pointer (some ⟨b, off, none⟩)) (vs : List Value) (h : Reads w b off vs)
    {d : TypeDesc} (hu : P.underlying ty = some d) (hd : isAggD d = true) (hi : (P.info? ty).map (·.size) = some vs.length) (hk : wpList P ops Q rest (a.put o.dst (.agg vs.toArray)) w) : wpList P ops Q (o :: rest) a w :=
  wpList_plain hg fun _ hK => by
    unfold Oper.wp
    rw [exec_load ho hx hu hd hi h]
    exact hK _ _ hk

/-- A struct is stored, in a walk. -/
theorem wpList_store_agg {Q : Exit → Act → World → Prop} (hg : o.guard = none) (ty : TypeId) (x y : Operand) (ho : o.op = .store ty x y) (b off : Nat) (hx : a.eval x = .pointer (some ⟨b, off, none⟩)) (vs : List Value) (hy : a.eval y = .agg vs.toArray)
    (T : TypeId) (cs : List Value) (h : Blk w b T cs) (hl : off + vs.length ≤ cs.length) (h1 : ∀ u ∈ vs, u.oneCell' = true) (hi : (P.info? ty).map (·.size) = some vs.length)
    (hk : ∀ w', Blk w' b T (splice cs off vs) → Fr (· = b) w w' → wpList P ops Q rest (a.put o.dst undef) w') : wpList P ops Q (o :: rest) a w :=
  wpList_plain hg fun _ hK => by
    obtain ⟨w', hr, hb, hf⟩ := exec_store ho hx hy hi h hl h1
    unfold Oper.wp
    rw [hr]
    exact hK _ _ (hk w' hb hf)

theorem Reads.keep {w w' : World} {b o : Nat} {vs : List Value} (h : Reads w b o vs) (hf : Fr (fun _ => False) w w') : Reads w' b o vs := by
  intro j hj
  rw [← h j hj]
  have : b < w.heap.size := by
    have h1 := h j hj
    have h2 : vs[j]? = some vs[j] := by simp [hj]
    rw [h2] at h1
    exact block_lt_of_cell h1
  exact World.cell?_of_block (hf.block b this (fun e => e))

theorem st_reads {n : Nat} {w w' : World} {b o : Nat} {vs : List Value} (hst : St n w w') (h : Reads w b o vs) : Reads w' b o vs := by
  unfold St at hst
  split at hst
  · exact h.keep hst
  · subst hst; exact h

/-- A struct is loaded, in a region that draws (kind 1 or 4). -/
theorem wpT_load_agg {Q : Act → World → Prop} {k : Nat} (hg : Region.wanted o (yielded ops a.tmps) = true) (h0 : (kd k == 1 || kd k == 4) = true) (ty : TypeId) (x : Operand) (ho : o.op = .load ty x) (b off : Nat) (hx : a.eval x = .pointer (some ⟨b, off, none⟩)) (vs : List Value) (h : Reads w b off vs)
    {d : TypeDesc} (hu : P.underlying ty = some d) (hd : isAggD d = true) (hi : (P.info? ty).map (·.size) = some vs.length) (hk : wpT P ops C kd Q (k + 1) rest (a.put o.dst (.agg vs.toArray)) w) : wpT P ops C kd Q k (o :: rest) a w := by
  simp only [Bool.or_eq_true, beq_iff_eq] at h0
  rw [wpT_cons, if_pos hg, if_neg (by omega), if_pos h0]
  exact ⟨_, fun w' hst => exec_load ho hx hu hd hi (st_reads hst h), hk⟩

theorem run_isAgg_false {ty : TypeId} {d : TypeDesc} (hu : P.underlying ty = some d) (hd : isAggD d = false) (w : World) : (isAgg ty).run P w = .ok false w := by
  unfold isAgg
  rw [Sem.run_bind, run_underlying hu w]
  cases d <;> simp_all [isAggD]

theorem exec_load1 {ty : TypeId} {x : Operand} {d : TypeDesc} {b off : Nat} {v : Value} (ho : o.op = .load ty x) (hx : a.eval x = .pointer (some ⟨b, off, none⟩)) (hu : P.underlying ty = some d) (hd : isAggD d = false)
    (h : w.cell? ⟨b, off, none⟩ = some v) : (execOp a.eval o).run P w = .ok (.value v) w := by
  unfold execOp
  simp only [ho, hx]
  have : (Instr.loadAt ty (.pointer (some ⟨b, off, none⟩))).run P w = .ok v w := by
    simp [Instr.loadAt, Instr.sureAddr, loadVar, Sem.run_bind, run_isAgg_false hu hd, load, Sem.run, h]
  rw [Sem.run_bind, this]
  rfl

/-- One cell is loaded, in a region that draws (kind 1 or 4). -/
theorem wpT_load1 {Q : Act → World → Prop} {k : Nat} (hg : Region.wanted o (yielded ops a.tmps) = true) (h0 : (kd k == 1 || kd k == 4) = true) (ty : TypeId) (x : Operand) (ho : o.op = .load ty x) (b off : Nat) (hx : a.eval x = .pointer (some ⟨b, off, none⟩)) (v : Value) (h : w.cell? ⟨b, off, none⟩ = some v)
    {d : TypeDesc} (hu : P.underlying ty = some d) (hd : isAggD d = false) (hk : wpT P ops C kd Q (k + 1) rest (a.put o.dst v) w) : wpT P ops C kd Q k (o :: rest) a w := by
  simp only [Bool.or_eq_true, beq_iff_eq] at h0
  rw [wpT_cons, if_pos hg, if_neg (by omega), if_pos h0]
  refine ⟨_, fun w' hst => exec_load1 ho hx hu hd ?_, hk⟩
  have hr : Reads w b off [v] := by
    intro j hj
    have : j = 0 := by simpa using hj
    subst this
    simpa using h
  have := st_reads hst hr 0 (by simp)
  simpa using this

/-- A struct is stored, in a region that draws (kind 2). -/
theorem wpT_store_agg {Q : Act → World → Prop} {k : Nat} (hg : Region.wanted o (yielded ops a.tmps) = true) (h0 : kd k = 2) (ty : TypeId) (x y : Operand) (ho : o.op = .store ty x y) (b off : Nat) (hx : a.eval x = .pointer (some ⟨b, off, none⟩)) (vs : List Value) (hy : a.eval y = .agg vs.toArray)
    (T : TypeId) (cs : List Value) (h : Blk w b T cs) (hl : off + vs.length ≤ cs.length) (h1 : ∀ u ∈ vs, u.oneCell' = true) (hi : (P.info? ty).map (·.size) = some vs.length)
    (hk : ∀ w', Blk w' b T (splice cs off vs) → Fr (· = b) w w' → C w' ∧ wpT P ops C kd Q (k + 1) rest (a.put o.dst undef) w') : wpT P ops C kd Q k (o :: rest) a w := by
  rw [wpT_cons, if_pos hg, if_neg (by omega), if_neg (by omega)]
  obtain ⟨w', hr, hb, hf⟩ := exec_store ho hx hy hi h hl h1
  unfold Oper.wp
  rw [hr]
  exact ⟨fun e => by omega, hk w' hb hf⟩

/-- Any loud operation, in a region that draws (kind 2). -/
theorem wpT_loud {Q : Act → World → Prop} {k : Nat} (hg : Region.wanted o (yielded ops a.tmps) = true) (h0 : kd k = 2) (h : o.wp P a w (fun a' w' => C w' ∧ wpT P ops C kd Q (k + 1) rest a' w') nope) : wpT P ops C kd Q k (o :: rest) a w := by
  rw [wpT_cons, if_pos hg, if_neg (by omega), if_neg (by omega)]
  exact wp_monoC (fun _ _ h => ⟨fun e => by omega, h⟩) h

/-- An operation that makes memory and turns none, in a region that draws (kind 3). -/
theorem wpT_makes {Q : Act → World → Prop} {k : Nat} (hg : Region.wanted o (yielded ops a.tmps) = true) (h0 : kd k = 3) (h : o.wp P a w (fun a' w' => Fr (fun _ => False) w w' ∧ C w' ∧ wpT P ops C kd Q (k + 1) rest a' w') nope) : wpT P ops C kd Q k (o :: rest) a w := by
  rw [wpT_cons, if_pos hg, if_neg (by omega), if_neg (by omega)]
  exact wp_monoC (fun _ _ h => ⟨fun _ => h.1, h.2⟩) h
end

end Go.Mm
