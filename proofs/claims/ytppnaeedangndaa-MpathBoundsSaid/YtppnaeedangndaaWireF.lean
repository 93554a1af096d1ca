/- Walks over package wire: a datagram's form, whether it may be, its size. -/
import Derived.Test.YtppnaeedangndaaWire
import Derived.Test.YtppnaeedangndaaNum
namespace Go.Mm

/-- A datagram's form; l is its data. -/
def formS (d : DG) (l : List Int) : Bool :=
  if d.kind = 2 ∨ d.kind = 3 then shardS d
  else if ¬ (d.k = 0 ∧ d.m = 0 ∧ d.index = 0) then false
  else if d.kind = 4 then decide (d.b = 0) && missS l
  else if d.kind = 5 then decide (d.dl = 4)
  else if d.kind = 7 then decide (d.dl = 0 ∧ d.a = 0 ∧ d.b = 0)
  else if d.kind = 8 then decide (d.dl = 0 ∧ d.b = 0)
  else decide (d.dl = 0)

/-- May a datagram be? -/
def checkS (d : DG) (l : List Int) : Int :=
  if d.kind < 1 ∨ 8 < d.kind then 72 else if d.path < 0 ∨ 2 ≤ d.path ∨ formS d l = false then 73 else 0

end Go.Mm
namespace Go.Proofs.Ytppnaeedangndaa
open Go.RowKit Go.Mm Go.Rg

theorem DataAt.keep {w w' : World} {a : Option Addr} {n : Nat} {l : List Int} (h : DataAt w a n l) (hf : Fr (fun _ => False) w w') : DataAt w' a n l :=
  ⟨h.len, h.byte, fun hn => by
    obtain ⟨b, o, e, hc⟩ := h.at_ hn
    refine ⟨b, o, e, fun i hi => ?_⟩
    have h1 : Reads w b (o + i) [.int .u8 (l.getD i 0)] := fun j hj => by
      have hj' : j < 1 := hj
      have : j = 0 := by omega
      subst this
      exact hc i hi
    exact h1.keep hf 0 (by simp)⟩

set_option maxRecDepth 100000 in
set_option maxHeartbeats 1600000 in
theorem wire_form (w : World) (d : DG) (l : List Int) (h : DataAt w d.da d.dl l) : Calls Try.prog 26 #[.agg d.cells.toArray] w fun e w' => e = .returned (.bool (formS d l)) ∧ Fr (fun _ => False) w w' := by
  obtain ⟨r, hr⟩ : ∃ r, r = formS d l := ⟨_, rfl⟩
  rw [← hr]
  have parts : ((d.kind == 2) = true ∧ r = shardS d) ∨ ((d.kind == 2) = false ∧ (d.kind == 3) = true ∧ r = shardS d) ∨
      ((d.kind == 2) = false ∧ (d.kind == 3) = false ∧ decide (d.k = 0 ∧ d.m = 0 ∧ d.index = 0) = false ∧ r = false) ∨
      ((d.kind == 2) = false ∧ (d.kind == 3) = false ∧ decide (d.k = 0 ∧ d.m = 0 ∧ d.index = 0) = true ∧ (d.kind == 4) = true ∧ (d.b == 0) = true ∧ r = missS l) ∨
      ((d.kind == 2) = false ∧ (d.kind == 3) = false ∧ decide (d.k = 0 ∧ d.m = 0 ∧ d.index = 0) = true ∧ (d.kind == 4) = true ∧ (d.b == 0) = false ∧ r = false) ∨
      ((d.kind == 2) = false ∧ (d.kind == 3) = false ∧ decide (d.k = 0 ∧ d.m = 0 ∧ d.index = 0) = true ∧ (d.kind == 4) = false ∧ r = formS d l) := by
    unfold formS at hr ⊢
    by_cases c2 : d.kind = 2 <;> by_cases c3 : d.kind = 3 <;> by_cases c4 : d.kind = 4 <;> by_cases cz : d.k = 0 ∧ d.m = 0 ∧ d.index = 0 <;> by_cases cb : d.b = 0 <;> simp_all
  have H := Lib.hid h
  clear h
  obtain ⟨z, hz⟩ : ∃ z, z = decide (d.k = 0 ∧ d.m = 0 ∧ d.index = 0) := ⟨_, rfl⟩
  rw [← hz] at parts
  have HZ := Lib.hid hz
  have HR := Lib.hid hr
  clear hz hr
  rcases parts with ⟨d2, e⟩ | ⟨d2, d3, e⟩ | ⟨d2, d3, rfl, e⟩ | ⟨d2, d3, rfl, d4, d5, e⟩ | ⟨d2, d3, rfl, d4, d5, e⟩ | ⟨d2, d3, rfl, d4, e⟩
  all_goals
    have E := Lib.hid e
    clear e
    unfold DG.cells
    go_enter Try.func26, Try.ntmps26
    go_wp2_with first
      | (go_at_call 38; refine (wire_shard _ d).mono ?_; rintro e w1 ⟨rfl, hf1⟩; rw [← E.out])
      | (go_at_call 39; refine (wire_zero _ _ _ _ d.k d.m d.index (Blk.new_at _ _ 3 _ (by simp))).mono ?_; rintro e w1 ⟨rfl, rfl⟩; rw [← HZ.out])
      | (go_at_call 40; refine (wire_missing _ _ _ _ l (DataAt.keep H.out (((Fr.refl _ w).alloc _).alloc _))).mono ?_; rintro e w1 ⟨rfl, rfl⟩; rw [← E.out])
  all_goals go_ret
  all_goals first
    | exact ⟨rfl, ((Fr.refl _ w).alloc _).trans hf1⟩
    | (have e := E.out; rw [e]; exact ⟨rfl, ((Fr.refl _ w).alloc _).alloc _⟩)
    | (refine ⟨ret_bool ?_, ((Fr.refl _ w).alloc _).alloc _⟩
       have e := E.out
       have hz := HZ.out.symm
       rw [e]
       unfold formS
       clear E HZ HR H e
       simp only [beq_eq_false_iff_ne, ne_eq, decide_eq_true_eq] at d2 d3 d4 hz
       rw [if_neg (by omega), if_neg (fun c => c hz), if_neg d4]
       simp only [beq_iff_eq, beq_eq_false_iff_ne, ne_eq] at *
       rw [Bool.eq_iff_iff]
       repeat' split
       all_goals (simp only [beq_iff_eq, decide_eq_true_eq, Bool.false_eq_true, false_iff]; omega))

theorem wire_Size (w : World) (d : DG) (h : d.dl ≤ 1000000000000) : Calls Try.prog 12 #[.agg d.cells.toArray] w fun e w' => e = .returned (.int .i64 (33 + d.dl : Nat)) ∧ Fr (fun _ => False) w w' := by
  obtain ⟨n, hn⟩ : ∃ n : Nat, n = 33 + d.dl := ⟨_, rfl⟩
  rw [← hn]
  have e1 : 29 + (d.dl : Int) + 4 = (n : Int) := by omega
  have h' : (d.dl : Int) ≤ 1000000000000 := by omega
  have h0 : (0 : Int) ≤ d.dl := by omega
  clear h
  have HN := Lib.hid hn
  clear hn
  unfold DG.cells
  go_enter Try.func12, Try.ntmps12
  go_wp2
  go_ret
  exact ⟨ret_int (by first | rfl | exact e1 | omega), (Fr.refl _ w).alloc _⟩

set_option maxRecDepth 100000 in
set_option maxHeartbeats 800000 in
theorem wire_Check (w : World) (d : DG) (l : List Int) (h : DataAt w d.da d.dl l) : Calls Try.prog 11 #[.agg d.cells.toArray] w fun e w' => e = .returned (.int .i64 (checkS d l)) ∧ Fr (fun _ => False) w w' := by
  have parts : ∀ E, E = checkS d l → ∀ f, f = formS d l → (d.kind < 1 ∧ E = 72) ∨ (1 ≤ d.kind ∧ 8 < d.kind ∧ E = 72) ∨ (1 ≤ d.kind ∧ d.kind ≤ 8 ∧ d.path < 0 ∧ E = 73) ∨ (1 ≤ d.kind ∧ d.kind ≤ 8 ∧ 0 ≤ d.path ∧ 2 ≤ d.path ∧ E = 73) ∨
      (1 ≤ d.kind ∧ d.kind ≤ 8 ∧ 0 ≤ d.path ∧ d.path < 2 ∧ f = false ∧ E = 73) ∨ (1 ≤ d.kind ∧ d.kind ≤ 8 ∧ 0 ≤ d.path ∧ d.path < 2 ∧ f = true ∧ E = 0) := by
    intro E hE f hf
    unfold checkS at hE
    rw [← hf] at hE
    by_cases c1 : d.kind < 1
    · exact .inl ⟨c1, by rw [hE, if_pos (.inl c1)]⟩
    · by_cases c2 : 8 < d.kind
      · exact .inr (.inl ⟨by omega, c2, by rw [hE, if_pos (.inr c2)]⟩)
      · rw [if_neg (by omega)] at hE
        by_cases c3 : d.path < 0
        · exact .inr (.inr (.inl ⟨by omega, by omega, c3, by rw [hE, if_pos (.inl c3)]⟩))
        · by_cases c4 : 2 ≤ d.path
          · exact .inr (.inr (.inr (.inl ⟨by omega, by omega, by omega, c4, by rw [hE, if_pos (.inr (.inl c4))]⟩)))
          · cases f with
            | false => exact .inr (.inr (.inr (.inr (.inl ⟨by omega, by omega, by omega, by omega, rfl, by rw [hE, if_pos (.inr (.inr rfl))]⟩))))
            | true => exact .inr (.inr (.inr (.inr (.inr ⟨by omega, by omega, by omega, by omega, rfl, by rw [hE, if_neg (by simp [c3]; omega)]⟩))))
  obtain ⟨E, hE⟩ : ∃ E, E = checkS d l := ⟨_, rfl⟩
  obtain ⟨f, hf⟩ : ∃ f, f = formS d l := ⟨_, rfl⟩
  have parts := parts E hE f hf
  rw [← hE]
  have HF := Lib.hid hf
  have H := Lib.hid h
  clear hf hE h
  rcases parts with ⟨d1, e⟩ | ⟨d1, d2, e⟩ | ⟨d1, d2, d3, e⟩ | ⟨d1, d2, d3, d4, e⟩ | ⟨d1, d2, d3, d4, d5, e⟩ | ⟨d1, d2, d3, d4, d5, e⟩
  all_goals
    subst e
    try subst d5
    unfold DG.cells
    go_enter Try.func11, Try.ntmps11
    go_wp2_with (go_at_call 26; refine (wire_form _ d l (DataAt.keep H.out ((Fr.refl _ w).alloc _))).mono ?_; rintro e w1 ⟨rfl, hf1⟩; rw [← HF.out])
    go_ret
    first
      | exact ⟨rfl, (Fr.refl _ w).alloc _⟩
      | exact ⟨rfl, ((Fr.refl _ w).alloc _).trans hf1⟩

end Go.Proofs.Ytppnaeedangndaa
