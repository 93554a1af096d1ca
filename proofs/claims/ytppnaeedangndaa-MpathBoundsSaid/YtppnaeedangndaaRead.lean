/- Reading of arguments: bytes, datagrams, in memory. -/
import Derived.Test.YtppnaeedangndaaWireF
import Derived.ProofKit
import Derived.Deep.Slices
import Derived.OpenShut
namespace Go.Proofs.Ytppnaeedangndaa
open Go.RowKit Go.Mm Go.Rg Go.Deep

section
variable {H : Type} {enc : TypeId × Value → H} {P : Program} {w : World} {base : Nat} {spare : Nat → Bool} {held : Bool} {fuel : Nat}

theorem struct_get {t : TypeId} {fs : Array Field} (ht : P.underlying t = some (.struct fs)) {cs : List Value} {x : DataW H × List MemPlace} (h : DataW.trod enc P w base spare held fuel t cs = some x) :
    cs.length = P.cellsOf t ∧ ∀ (i : Nat) (f : Field), fs[i]? = some f → ∃ n y, DataW.trod enc P w base spare held n f.type ((cs.drop f.offset).take (P.cellsOf f.type)) = some y := by
  obtain ⟨xs, n, _, _, hl, hlen, hf⟩ := DataW.trod_struct ht h
  refine ⟨hl, fun i f hi => ?_⟩
  have h1 := hf i f hi
  have hlt : i < xs.length := by
    rw [hlen]
    exact (Array.getElem?_eq_some_iff.1 hi).1
  rw [List.getElem?_eq_getElem hlt] at h1
  exact ⟨n, _, h1⟩

theorem int_get {k : IntKind} {t : TypeId} (ht : P.underlying t = some (.int k)) {cs : List Value} {x : DataW H × List MemPlace} (h : DataW.trod enc P w base spare held fuel t cs = some x) : ∃ n, cs = [.int k n] ∧ (Lit.int k n).wf = true := by
  obtain ⟨n, h1, _, h2⟩ := DataW.trod_int ht h
  exact ⟨n, h1, h2⟩

theorem bytes_at {t e : TypeId} (ht : P.underlying t = some (.slice e)) (he : P.underlying e = some (.int .u8)) (hc : P.cellsOf e = 1) {cs : List Value} {x : DataW H × List MemPlace} (h : DataW.trod enc P w base (fun _ => true) held fuel t cs = some x) :
    ∃ a len cap l, cs = [.slice a len cap] ∧ DataAt w a len l ∧ len ≤ maxLen := by
  rcases open_slice1 ht hc h with ⟨rfl, _⟩ | ⟨a, len, cap, m, n, V, D, Pl, rfl, _, hl, hm, hmm, _, hx⟩
  · exact ⟨none, 0, 0, [], rfl, ⟨rfl, fun i hi => by omega, fun h => by omega⟩, Nat.zero_le _⟩
  · simp only [if_true] at hmm
    subst hmm
    have hv : ∀ i, i < m → ∃ k, V i = .int .u8 k ∧ 0 ≤ k ∧ k ≤ 255 := fun i hi => by
      obtain ⟨k, h1, h2⟩ := int_get he (hx i hi).2
      simp only [List.cons.injEq, and_true] at h1
      refine ⟨k, h1, ?_⟩
      exact bounds_u8 h2
    have hg : ∀ i, i < len → ((List.range len).map fun i => intOf (V i)).getD i 0 = intOf (V i) := fun i hi => by simp [List.getD_eq_getElem?_getD, hi]
    refine ⟨some a, len, m, (List.range len).map fun i => intOf (V i), rfl, ⟨by simp, fun i hi => ?_, fun h0 => ?_⟩, Nat.le_trans hl hm⟩
    · rw [hg i hi]
      obtain ⟨k, h1, h2⟩ := hv i (by omega)
      rw [h1]
      exact h2
    · obtain ⟨b, o, sp⟩ := a
      have h1 := (hx 0 (by omega)).1
      have hsp : sp = none := by simpa [Addr.add] using World.cell?_spot h1
      subst hsp
      refine ⟨b, o, rfl, fun i hi => ?_⟩
      have h2 := (hx i (by omega)).1
      have e : (⟨b, o, none⟩ : Addr).add i = ⟨b, o + i, none⟩ := by unfold Addr.add; split <;> simp_all
      rw [e] at h2
      rw [h2, hg i hi]
      obtain ⟨k, h3, _⟩ := hv i (by omega)
      rw [h3]
      rfl

end

theorem list11 {α : Type} {l : List α} (h : l.length = 11) : ∃ a b c d e f g h' i j k, l = [a, b, c, d, e, f, g, h', i, j, k] := by
  match l, h with
  | [a, b, c, d, e, f, g, h', i, j, k], _ => exact ⟨a, b, c, d, e, f, g, h', i, j, k, rfl⟩

theorem cells_dg : Try.prog.cellsOf 34 = 11 := by kernel_rfl
theorem cells_int : Try.prog.cellsOf 3 = 1 := by kernel_rfl
theorem cells_u32 : Try.prog.cellsOf 30 = 1 := by kernel_rfl
theorem cells_u8 : Try.prog.cellsOf 5 = 1 := by kernel_rfl
theorem cells_bytes : Try.prog.cellsOf 32 = 1 := by kernel_rfl

/-- A datagram that came in. -/
theorem dg_at {H : Type} {enc : TypeId × Value → H} {w : World} {base : Nat} {held : Bool} {fuel : Nat} {cs : List Value} {x : DataW H × List MemPlace} (h : DataW.trod enc Try.prog w base (fun _ => true) held fuel 34 cs = some x) :
    ∃ d : DG, cs = d.cells ∧ (∃ l, DataAt w d.da d.dl l) ∧ (Lit.int .u32 d.session).wf = true ∧ (Lit.int .u32 d.seq).wf = true ∧ (Lit.int .u32 d.tick).wf = true ∧ (Lit.int .u32 d.a).wf = true ∧ (Lit.int .u32 d.b).wf = true ∧
      (Lit.int .i64 d.kind).wf = true ∧ (Lit.int .i64 d.path).wf = true ∧ (Lit.int .i64 d.k).wf = true ∧ (Lit.int .i64 d.m).wf = true ∧ (Lit.int .i64 d.index).wf = true := by
  obtain ⟨hl, hf⟩ := struct_get Try.underlying34 h
  rw [cells_dg] at hl
  obtain ⟨c0, c1, c2, c3, c4, c5, c6, c7, c8, c9, c10, rfl⟩ := list11 hl
  obtain ⟨_, _, f0⟩ := hf 0 _ rfl
  obtain ⟨_, _, f1⟩ := hf 1 _ rfl
  obtain ⟨_, _, f2⟩ := hf 2 _ rfl
  obtain ⟨_, _, f3⟩ := hf 3 _ rfl
  obtain ⟨_, _, f4⟩ := hf 4 _ rfl
  obtain ⟨_, _, f5⟩ := hf 5 _ rfl
  obtain ⟨_, _, f6⟩ := hf 6 _ rfl
  obtain ⟨_, _, f7⟩ := hf 7 _ rfl
  obtain ⟨_, _, f8⟩ := hf 8 _ rfl
  obtain ⟨_, _, f9⟩ := hf 9 _ rfl
  obtain ⟨_, _, f10⟩ := hf 10 _ rfl
  obtain ⟨n0, e0, w0⟩ := int_get Try.underlying3 f0
  obtain ⟨n1, e1, w1⟩ := int_get Try.underlying30 f1
  obtain ⟨n2, e2, w2⟩ := int_get Try.underlying30 f2
  obtain ⟨n3, e3, w3⟩ := int_get Try.underlying3 f3
  obtain ⟨n4, e4, w4⟩ := int_get Try.underlying30 f4
  obtain ⟨n5, e5, w5⟩ := int_get Try.underlying30 f5
  obtain ⟨n6, e6, w6⟩ := int_get Try.underlying30 f6
  obtain ⟨n7, e7, w7⟩ := int_get Try.underlying3 f7
  obtain ⟨n8, e8, w8⟩ := int_get Try.underlying3 f8
  obtain ⟨n9, e9, w9⟩ := int_get Try.underlying3 f9
  obtain ⟨a, len, cap, l, e10, hd, _⟩ := bytes_at Try.underlying32 Try.underlying5 cells_u8 f10
  simp [cells_int, cells_u32, cells_bytes] at e0 e1 e2 e3 e4 e5 e6 e7 e8 e9 e10
  subst e0 e1 e2 e3 e4 e5 e6 e7 e8 e9 e10
  exact ⟨⟨n0, n1, n2, n3, n4, n5, n6, n7, n8, n9, a, len, cap⟩, rfl, ⟨l, hd⟩, w1, w2, w4, w5, w6, w0, w3, w7, w8, w9⟩

end Go.Proofs.Ytppnaeedangndaa
