/- Walks over package wire: which datagrams may be. -/
import Derived.Test.YtppnaeedangndaaPrioF
import Derived.Deep.LoopGhost
import Derived.LoopN
namespace Go.Mm

/-- A shard's form. -/
def shardS (d : DG) : Bool := decide (1 ≤ d.k ∧ d.k ≤ 16 ∧ 0 ≤ d.m ∧ d.m ≤ 16 ∧ 1 ≤ d.dl ∧ d.dl ≤ 1200 ∧ ((d.kind = 2 ∧ 0 ≤ d.index ∧ d.index < d.k) ∨ (d.kind ≠ 2 ∧ d.k ≤ d.index ∧ d.index < d.k + d.m)))

/-- Is the i-th number of a list of what is missing as it may be? -/
def missAt (l : List Int) (i : Nat) : Bool := decide (l.getD i 0 < 32) && (i == 0 || decide (l.getD (i - 1) 0 < l.getD i 0))
/-- A list of what is missing. -/
def missS (l : List Int) : Bool := decide (1 ≤ l.length ∧ l.length ≤ 32) && (List.range l.length).all (missAt l)

/-- A slice of bytes, and what they are. -/
structure DataAt (w : World) (a : Option Addr) (n : Nat) (l : List Int) : Prop where
  len : l.length = n
  byte : ∀ i, i < n → 0 ≤ l.getD i 0 ∧ l.getD i 0 ≤ 255
  at_ : 0 < n → ∃ b o, a = some ⟨b, o, none⟩ ∧ ∀ i, i < n → w.cell? ⟨b, o + i, none⟩ = some (.int .u8 (l.getD i 0))

end Go.Mm
namespace Go.Proofs.Ytppnaeedangndaa
open Go.RowKit Go.Mm Go.Rg

theorem ret_bool {a b : Bool} (h : a = b) : Ending.returned (.bool a) = .returned (.bool b) := by rw [h]

set_option maxHeartbeats 800000 in
theorem wire_shard (w : World) (d : DG) : Calls Try.prog 38 #[.agg d.cells.toArray] w fun e w' => e = .returned (.bool (shardS d)) ∧ Fr (fun _ => False) w w' := by
  obtain ⟨r, hr⟩ : ∃ r, r = shardS d := ⟨_, rfl⟩
  rw [← hr]
  have HR := Lib.hid hr
  clear hr
  unfold DG.cells
  go_enter Try.func38, Try.ntmps38
  go_wp2
  all_goals (
    go_ret
    refine ⟨ret_bool ?_, (Fr.refl _ w).alloc _⟩
    rw [HR.out]
    clear HR
    unfold shardS)
  all_goals try simp only [beq_iff_eq, beq_eq_false_iff_ne, ne_eq] at *
  all_goals first
    | (symm; rw [decide_eq_false_iff_not]; omega)
    | (rw [decide_eq_decide]; omega)

set_option maxHeartbeats 800000 in
theorem wire_zero (w : World) (g T cap : Nat) (a b c : Int) (h : Blk w g T [.int .i64 a, .int .i64 b, .int .i64 c]) :
    Calls Try.prog 39 #[.slice (some ⟨g, 0, none⟩) 3 cap] w fun e w' => e = .returned (.bool (decide (a = 0 ∧ b = 0 ∧ c = 0))) ∧ w = w' := by
  have h0 : w.cell? ⟨g, 0, none⟩ = some (.int .i64 a) := h.cell 0
  have h1 : w.cell? ⟨g, 1, none⟩ = some (.int .i64 b) := h.cell 1
  have h2 : w.cell? ⟨g, 2, none⟩ = some (.int .i64 c) := h.cell 2
  clear h
  have parts : ∀ E : Bool, E = decide (a = 0 ∧ b = 0 ∧ c = 0) → ((a == 0) = false ∧ E = false) ∨ ((a == 0) = true ∧ (b == 0) = false ∧ E = false) ∨ ((a == 0) = true ∧ (b == 0) = true ∧ (c == 0) = false ∧ E = false) ∨ ((a == 0) = true ∧ (b == 0) = true ∧ (c == 0) = true ∧ E = true) := by
    rintro E rfl
    by_cases c1 : a = 0 <;> by_cases c2 : b = 0 <;> by_cases c3 : c = 0 <;> simp [c1, c2, c3]
  generalize hE : decide (a = 0 ∧ b = 0 ∧ c = 0) = E
  rcases parts E hE.symm with ⟨d1, rfl⟩ | ⟨d1, d2, rfl⟩ | ⟨d1, d2, d3, rfl⟩ | ⟨d1, d2, d3, rfl⟩
  all_goals
    clear parts hE
    go_enter Try.func39, Try.ntmps39
    go_wp2
    refine wp_loop_rounds 4 ?_
    rw [rounds_succ]
    go_wp2
  all_goals try (rw [rounds_succ]; go_wp2)
  all_goals try (rw [rounds_succ]; go_wp2)
  all_goals try (rw [rounds_succ]; go_wp2)
  all_goals (go_ret; exact ⟨rfl, rfl⟩)

theorem missS_step (l : List Int) (k : Nat) (hk : k < l.length) (_ : ∀ i, i < k → missAt l i = true) (hb : missAt l k = false) : missS l = false := by
  unfold missS
  have : (List.range l.length).all (missAt l) = false := by
    rw [List.all_eq_false]
    exact ⟨k, by simpa using hk, by simp [hb]⟩
  rw [this, Bool.and_false]

theorem missS_all (l : List Int) (h1 : 1 ≤ l.length) (h2 : l.length ≤ 32) (h : ∀ i, i < l.length → missAt l i = true) : missS l = true := by
  unfold missS
  have : (List.range l.length).all (missAt l) = true := by
    rw [List.all_eq_true]
    intro i hi
    exact h i (by simpa using hi)
  rw [this]
  simp [h1, h2]

set_option maxHeartbeats 800000 in
theorem wire_missing (w : World) (a : Option Addr) (n c : Nat) (l : List Int) (h : DataAt w a n l) :
    Calls Try.prog 40 #[.slice a n c] w fun e w' => e = .returned (.bool (missS l)) ∧ w = w' := by
  have hlen := h.len
  by_cases c1 : n < 1
  · have e : missS l = false := by unfold missS; simp; intro _; omega
    rw [e]
    have c1' : (n : Int) < 1 := by omega
    clear e h
    go_enter Try.func40, Try.ntmps40
    go_wp2
    go_ret
    exact ⟨rfl, rfl⟩
  · by_cases c2 : 32 < n
    · have e : missS l = false := by unfold missS; simp; intro h1; omega
      rw [e]
      have c2' : (32 : Int) < n := by omega
      have c1' : (1 : Int) ≤ n := by omega
      clear e h
      go_enter Try.func40, Try.ntmps40
      go_wp2
      go_ret
      exact ⟨rfl, rfl⟩
    · obtain ⟨b, o, rfl, hc⟩ := h.at_ (by omega)
      have hby := h.byte
      have c1' : (1 : Int) ≤ n := by omega
      have c2' : (n : Int) ≤ 32 := by omega
      clear h
      have HL := Lib.hid hlen; have HB := Lib.hid hby; have HC := Lib.hid hc
      clear hlen hby hc c1 c2
      obtain ⟨r, hr⟩ : ∃ r, r = missS l := ⟨_, rfl⟩
      rw [← hr]
      have HR := Lib.hid hr
      clear hr
      go_enter Try.func40, Try.ntmps40
      go_wp2
      go_loopw [15] (fun v wr => ∃ k : Nat, v = .int .i64 k ∧ k ≤ n ∧ (∀ i, i < k → missAt l i = true) ∧ wr = w) (fun v _ => n - (intOf v).toNat)
      case atStart => exact ⟨0, rfl, Nat.zero_le _, fun i hi => by omega, rfl⟩
      case round =>
        obtain ⟨k, rfl, hk, hall, rfl⟩ := hrel
        have k0 : (0 : Int) ≤ k := by omega
        by_cases c3 : k < n
        · have c3' : (k : Int) < n := by omega
          have ck : wr.cell? ⟨b, o + k, none⟩ = some (.int .u8 (l.getD k 0)) := HC.out k c3
          have bk := HB.out k c3
          have HA := Lib.hid hall
          clear hall
          obtain ⟨x, hx⟩ : ∃ x, x = l.getD k 0 := ⟨_, rfl⟩
          rw [← hx] at ck bk
          obtain ⟨bk1, bk2⟩ := bk
          have HX := Lib.hid hx
          clear hx
          by_cases c4 : 32 ≤ x
          · have e : r = false := by
              rw [HR.out]
              exact missS_step l k (by rw [HL.out]; exact c3) HA.out (by unfold missAt; rw [← HX.out]; simp; intro h; omega)
            subst e
            go_wp2
            go_ret
            exact ⟨rfl, rfl⟩
          · have c4' : x < 32 := by omega
            by_cases c5 : k = 0
            · subst c5
              rw [Nat.add_zero] at ck
              go_wp2
              go_roundw
              case rel => exact ⟨1, rfl, by omega, fun i hi => by
                have : i = 0 := by omega
                subst this
                unfold missAt
                rw [← HX.out]
                simp [c4'], trivial⟩
              case measure => simp [intOf]; omega
            · have c5' : (0 : Int) < k := by omega
              have cp : wr.cell? ⟨b, o + (k - 1), none⟩ = some (.int .u8 (l.getD (k - 1) 0)) := HC.out (k - 1) (by omega)
              have bp := HB.out (k - 1) (by omega)
              obtain ⟨y, hy⟩ : ∃ y, y = l.getD (k - 1) 0 := ⟨_, rfl⟩
              rw [← hy] at cp bp
              obtain ⟨bp1, bp2⟩ := bp
              have HY := Lib.hid hy
              clear hy
              obtain ⟨j, hj⟩ : ∃ j : Nat, j = k - 1 := ⟨_, rfl⟩
              rw [← hj] at cp
              have ej : (k : Int) - 1 = (j : Int) := by omega
              have ej0 : (0 : Int) ≤ j := by omega
              have ej1 : (j : Int) < n := by omega
              have HJ := Lib.hid hj
              clear hj c5
              by_cases c6 : x ≤ y
              · have e : r = false := by
                  rw [HR.out]
                  exact missS_step l k (by rw [HL.out]; exact c3) HA.out (by unfold missAt; rw [← HX.out, ← HY.out]; simp; intro h; omega)
                subst e
                go_wp2
                go_ret
                exact ⟨rfl, rfl⟩
              · have c6' : y < x := by omega
                go_wp2
                go_roundw
                case rel => exact ⟨k + 1, by go_num, by omega, fun i hi => by
                  by_cases hik : i = k
                  · subst hik
                    unfold missAt
                    rw [← HX.out, ← HY.out]
                    simp [c4', c6']
                  · exact HA.out i (by omega), trivial⟩
                case measure => simp [intOf]; omega
        · have c3' : (n : Int) ≤ k := by omega
          have e : r = true := by
            rw [HR.out]
            exact missS_all l (by rw [HL.out]; omega) (by rw [HL.out]; omega) (fun i hi => hall i (by have := HL.out; omega))
          subst e
          clear hall
          go_wp2
          go_ret
          exact ⟨rfl, rfl⟩

end Go.Proofs.Ytppnaeedangndaa
