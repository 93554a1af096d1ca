/- MpathBounds: whatever the sizes and the script, the law returns true, and its arguments read as before. -/
import Derived.Test.YtppnaeedangndaaMBoundsP
import Derived.Test.YtppnaeedangndaaRows
import Derived.ProofKit
import Derived.OpenShut
import Derived.ShutString
import Derived.ChangeOld
import Derived.Below
import Derived.Lib.SmallJoins
namespace Go.Proofs.Ytppnaeedangndaa
open Go.ChangeShapes Go.WideShapes Go.ChangeAt Go.RowKit Go.Joins Go.Mm

theorem ownB : ownKnob Try.prog.godebug = none := by kernel_rfl
theorem laidOutBd : laidOutB Try.prog = true := by kernel_rfl
theorem cells_sizesB : Try.prog.cellsOf 23 = 3 := by kernel_rfl

/-- The law, at whatever script. -/
theorem bounds_walk (w : World) (rate burst room : Int) (a : Option Addr) (c : Nat) (ops : List OpS) (b o : Nat) (h1 : ops.length ≤ 9223372036854775807) (h2 : 0 < ops.length → a = some ⟨b, o, none⟩ ∧ ScriptAt w b o ops) :
    Calls Try.prog 4 #[.agg #[.int .i64 rate, .int .i64 burst, .int .i64 room], .slice a ops.length c] w fun e w' => e = .returned (.bool true) ∧ Below w.heap.size w w' := by
  by_cases g : 1 ≤ rate ∧ rate ≤ 100000 ∧ 1 ≤ burst ∧ burst ≤ 100000 ∧ 1 ≤ room ∧ room ≤ 256
  · obtain ⟨g1, g2, g3, g4, g5, g6⟩ := g
    exact (law15_Bounds w rate burst room b o c ops h1 a h2 g1 g2 g3 g4 g5 g6).mono fun e w' ⟨he, hf⟩ => ⟨he, hf.below⟩
  · exact (law15_Bounds_no w rate burst room _ g).mono fun e w' ⟨he, hf⟩ => ⟨he, hf.below⟩

set_option maxRecDepth 100000 in
theorem bounds_lifted (os : Os) (started : os.Started) (H : Type) (enc : TypeId × Value → H) :
    ReturnsInHanded {} Try.checked os 4 .any (Rows.mpathBoundsSpec.pre6 enc Try.prog Try.f4 Rows.mpathBoundsRow.domain false) (Rows.mpathBoundsSpec.post enc Try.prog Try.f4 false true false false) := by
  refine returnsInHanded_of_change (C := Try.checked) ownB started (by kernel_rfl) Try.func4
    (ChangeSpec.witness6 (enc := enc) (C := Try.checked) false ⟨#[], #[.agg #[.int .i64 0, .int .i64 0, .int .i64 0], .slice none 0 0], []⟩ 8 (by kernel_rfl) (by kernel_rfl) (by kernel_rfl) (by kernel_rfl)) ?_
  intro W base args ds gs before hval0 hW hcnd _
  have hval : ∀ (j : Nat) t v, Try.f4.params[j]? = some t → args[j]? = some v → Value.okWide Try.prog W .any base t v := hval0
  have hW' := hW
  obtain ⟨p, q, hA0, hV, rfl, hfz, hnd⟩ := hW
  have hA : DataW.TrodAll enc Try.prog W 0 (fun _ => true) true Try.f4.params.toList args.toList ds p := hA0
  rw [Try.params4] at hA hval
  obtain ⟨v0, vs0, d0, ds0, p0, q0, hargs, rfl, rfl, h0, r0⟩ := trodAll_cons hA
  obtain ⟨v1, vs1, d1, ds1, p1, q1, rfl, rfl, rfl, h1, r1⟩ := trodAll_cons r0
  obtain ⟨rfl, rfl, rfl⟩ := trodAll_nil r1
  obtain rfl : args = #[v0, v1] := by cases args; simp_all
  obtain ⟨rfl, rfl⟩ := trodVars_none hV
  have k0 := h0
  have lt0 : ∀ x ∈ p0, x.block < W.heap.size := by obtain ⟨m, hm⟩ := k0; exact DataW.trod_lt m _ _ _ hm
  have k1 := h1
  have lt1 : ∀ x ∈ p1, x.block < W.heap.size := by obtain ⟨m, hm⟩ := k1; exact DataW.trod_lt m _ _ _ hm
  obtain ⟨c0, c1, c2, y0, y1, y2, m, rfl, rfl, rfl, hy0, hy1, hy2⟩ := open_agg3 Try.underlying23 (by kernel_rfl) cells_sizesB (hval 0 23 v0 rfl rfl) h0
  obtain ⟨rate, e0, _, _⟩ := DataW.trod_int Try.underlying3 hy0
  obtain ⟨burst, e1, _, _⟩ := DataW.trod_int Try.underlying3 hy1
  obtain ⟨room, e2, _, _⟩ := DataW.trod_int Try.underlying3 hy2
  simp at e0 e1 e2
  subst e0 e1 e2
  obtain ⟨a1, len1, cap1, rfl⟩ := okWide_slice Try.underlying40 (hval 1 40 v1 rfl rfl)
  obtain ⟨ops, b, o, rfl, hz, hops⟩ : ∃ (ops : List OpS) (b o : Nat), len1 = ops.length ∧ ops.length ≤ 9223372036854775807 ∧ (0 < ops.length → a1 = some ⟨b, o, none⟩ ∧ ScriptAt W b o ops) := by
    obtain ⟨fuel, hf⟩ := h1
    obtain ⟨a, c, ops, b, o, hv, h2, h3⟩ := ops_at hf
    simp [Value.cells] at hv
    obtain ⟨rfl, rfl, rfl⟩ := hv
    exact ⟨ops, b, o, rfl, h2, h3⟩
  clear hA0 hval0
  refine (bounds_walk W rate burst room a1 cap1 ops b o hz hops).mono fun e W' ⟨he, bel⟩ => ?_
  subst he
  exact ⟨_, rfl, _, _, _, [], _, [], hW', trodAll_mk1 (shut_bool Try.underlying4 _), (trodAll_cons_mk (Below.trod laidOutBd (by kernel_rfl) (of_decide_eq_true (by kernel_rfl)) k0 bel lt0) (trodAll_cons_mk (Below.trod laidOutBd (by kernel_rfl) (of_decide_eq_true (by kernel_rfl)) k1 bel lt1) trodAll_mk0)), rfl, bel.frame _, fun h => by cases h⟩

theorem mpathBounds_holds : Rows.MpathBoundsSaid :=
  OpenClaim.holds_of_wide 4 Try.f4 rfl rfl rfl rfl rfl rfl rfl ⟨rfl, rfl, rfl, rfl, rfl⟩ rfl rfl rfl rfl rfl (by kernel_rfl) Try.func4 (by kernel_rfl)
    (of_decide_eq_true (by kernel_rfl)) (by unfold Func.isWrapper; first | (rw [if_pos (by decide +kernel)]; kernel_rfl) | (rw [if_neg (by decide +kernel)]; exact ⟨rfl, rfl⟩))
    (fun os started H enc _ => bounds_lifted os started H enc)

#print axioms mpathBounds_holds
end Go.Proofs.Ytppnaeedangndaa
