/- What goes at once goes by rank: plain. -/
import Derived.Test.YtppnaeedangndaaFlushS
namespace Go.Mm
open Go.Proofs.Ytppnaeedangndaa

theorem ords_ahead : Hp.Ords Go.Proofs.Ytppnaeedangndaa.ahead := by
  constructor
  · intro a b h
    unfold Go.Proofs.Ytppnaeedangndaa.ahead at *
    simp only [Bool.or_eq_true, decide_eq_true_eq, Bool.and_eq_true, beq_iff_eq, Bool.or_eq_false_iff, decide_eq_false_iff_not, Bool.and_eq_false_iff, beq_eq_false_iff_ne] at *
    omega
  · intro a b c h k
    unfold Go.Proofs.Ytppnaeedangndaa.ahead at *
    simp only [Bool.or_eq_false_iff, decide_eq_false_iff_not, Bool.and_eq_false_iff, beq_eq_false_iff_ne] at *
    omega

/-- n comes no later than m. -/
def leq (r : Nat → Int) (n m : Nat) : Prop := r n < r m ∨ (r n = r m ∧ n ≤ m)

/-- One of the first N that were pushed. -/
def Good (r : Nat → Int) (N : Nat) (x : It) : Prop := ∃ j : Nat, j < N ∧ x.rank = r j ∧ x.turn = j + 1 ∧ x.d.a = j ∧ x.d.dl = 0

def keyD (d : DG) : Nat := d.a.toNat
def keysOf (l : List SentS) : List Nat := l.map fun e => keyD e.d

theorem good_leq {r : Nat → Int} {N : Nat} {x y : It} (hx : Good r N x) (hy : Good r N y) (h : Go.Proofs.Ytppnaeedangndaa.ahead y x = false) : leq r (keyD x.d) (keyD y.d) := by
  obtain ⟨i, _, h1, h2, h3, _⟩ := hx
  obtain ⟨j, _, k1, k2, k3, _⟩ := hy
  unfold Go.Proofs.Ytppnaeedangndaa.ahead at h
  simp only [Bool.or_eq_false_iff, decide_eq_false_iff_not, Bool.and_eq_false_iff, beq_eq_false_iff_ne] at h
  have e1 : keyD x.d = i := by unfold keyD; omega
  have e2 : keyD y.d = j := by unfold keyD; omega
  rw [e1, e2]
  unfold leq
  omega

structure KI (r : Nat → Int) (ks : List Nat) (L : List It) : Prop where
  pw : ks.Pairwise (leq r)
  up : ∀ n ∈ ks, ∀ x ∈ L, leq r n (keyD x.d)

theorem keys_sendAll (s : SendS) (out : List SentS) (W : List Nat) (d : DG) : keysOf (sendAll s out W d).2 = keysOf out ++ List.replicate W.length (keyD d) := by
  induction W generalizing s out with
  | nil => simp [sendAll]
  | cons i W ih =>
    have h := ih (numS s i) (out ++ [⟨i, stampD s i d⟩])
    have e : sendAll s out (i :: W) d = sendAll (numS s i) (out ++ [⟨i, stampD s i d⟩]) W d := rfl
    rw [e, h]
    simp [keysOf, List.replicate_succ, stampD, keyD]

theorem KI.more {r : Nat → Int} {ks : List Nat} {L L' : List It} {k c : Nat} (h : KI r ks L) (hk : ∃ x ∈ L, keyD x.d = k) (hL : ∀ x ∈ L', x ∈ L) (hle : ∀ x ∈ L, leq r k (keyD x.d)) : KI r (ks ++ List.replicate c k) L' := by
  obtain ⟨x0, hx0, rfl⟩ := hk
  refine ⟨?_, ?_⟩
  · rw [List.pairwise_append]
    refine ⟨h.pw, ?_, ?_⟩
    · rw [List.pairwise_replicate]
      right
      unfold leq; omega
    · intro a ha b hb
      rw [(List.mem_replicate.1 hb).2]
      exact h.up a ha x0 hx0
  · intro n hn x hx
    rcases List.mem_append.1 hn with hn | hn
    · exact h.up n hn x (hL x hx)
    · rw [(List.mem_replicate.1 hn).2]
      exact hle x (hL x hx)

/-- Where the queue is a heap of good ones. -/
structure QOk (r : Nat → Int) (N : Nat) (L : List It) : Prop where
  heap : Hp.Heap Go.Proofs.Ytppnaeedangndaa.ahead L
  good : ∀ x ∈ L, Good r N x

theorem QOk.first {r : Nat → Int} {N : Nat} {L : List It} (h : QOk r N L) (h0 : 0 < L.length) : ∀ y ∈ L, leq r (keyD (Hp.nth L 0).d) (keyD y.d) := by
  intro y hy
  obtain ⟨i, hi, rfl⟩ := List.getElem_of_mem hy
  have := Hp.heap_root ords_ahead L h.heap i i (Nat.le_refl _) hi
  rw [Hp.nth_eq _ _ hi] at this
  exact good_leq (h.good _ (Hp.nth_mem L 0 h0)) (h.good _ (List.getElem_mem hi)) this

theorem QOk.take {r : Nat → Int} {N : Nat} {L : List It} (h : QOk r N L) (h0 : 0 < L.length) : QOk r N (Hp.take Go.Proofs.Ytppnaeedangndaa.ahead L 0) :=
  ⟨Hp.take_heap ords_ahead L 0 h0 h.heap, fun x hx => h.good x (Go.Mm.take_mem L h0 x hx)⟩

theorem flushR_ord (r : Nat → Int) (N : Nat) (n : Nat) : ∀ (f : FlS) (ks : List Nat), QOk r N f.L → KI r (ks ++ keysOf f.out) f.L →
    QOk r N (flushR n f).L ∧ KI r (ks ++ keysOf (flushR n f).out) (flushR n f).L ∧ (flushR n f).L.length ≤ f.L.length := by
  induction n with
  | zero => exact fun f ks h k => ⟨h, k, Nat.le_refl _⟩
  | succ n ih =>
    intro f ks h k
    unfold flushR
    split
    · exact ⟨h, k, Nat.le_refl _⟩
    · rename_i hz
      have h0 : 0 < f.L.length := by omega
      split
      · have h1 : QOk r N (sent f).L := h.take h0
        have k1 : KI r (ks ++ keysOf (sent f).out) (sent f).L := by
          show KI r (ks ++ keysOf (sendAll f.s f.out _ _).2) _
          rw [keys_sendAll, ← List.append_assoc]
          exact k.more ⟨_, Hp.nth_mem f.L 0 h0, rfl⟩ (fun x hx => Go.Mm.take_mem f.L h0 x hx) (h.first h0)
        obtain ⟨a, b, c⟩ := ih (sent f) ks h1 k1
        refine ⟨a, b, Nat.le_trans c ?_⟩
        show (Hp.take _ f.L 0).length ≤ _
        rw [Go.Mm.take_len f.L h0]; omega
      · exact ⟨h, k, Nat.le_refl _⟩

theorem flushS_ord {r : Nat → Int} {N : Nat} {s : SendS} {k : BuckS} {L : List It} {ks : List Nat} (h : QOk r N L) (hk : KI r ks L) :
    QOk r N (flushS s k L).L ∧ KI r (ks ++ keysOf (flushS s k L).out) (flushS s k L).L ∧ (flushS s k L).L.length ≤ L.length :=
  flushR_ord r N _ ⟨s, k, [], L⟩ ks h (by simpa [keysOf] using hk)

/-- Keys of what goes are keys of what waited. -/
theorem flushR_keys (r : Nat → Int) (N : Nat) (n : Nat) : ∀ (f : FlS), QOk r N f.L → (∀ k ∈ keysOf f.out, k < N) → ∀ k ∈ keysOf (flushR n f).out, k < N := by
  induction n with
  | zero => exact fun f _ h => h
  | succ n ih =>
    intro f h hk
    unfold flushR
    split
    · exact hk
    · rename_i hz
      have h0 : 0 < f.L.length := by omega
      split
      · refine ih (sent f) (h.take h0) ?_
        show ∀ k ∈ keysOf (sendAll f.s f.out _ _).2, k < N
        rw [keys_sendAll]
        intro k hk'
        rcases List.mem_append.1 hk' with hk' | hk'
        · exact hk k hk'
        · rw [(List.mem_replicate.1 hk').2]
          obtain ⟨j, hj, _, _, h3, _⟩ := h.good _ (Hp.nth_mem f.L 0 h0)
          unfold keyD; omega
      · exact hk

theorem flushS_keys {r : Nat → Int} {N : Nat} {s : SendS} {k : BuckS} {L : List It} (h : QOk r N L) : ∀ n ∈ keysOf (flushS s k L).out, n < N :=
  flushR_keys r N _ ⟨s, k, [], L⟩ h (by simp [keysOf])

theorem sendAll_a (s : SendS) (out : List SentS) (W : List Nat) (d : DG) : ∀ e ∈ (sendAll s out W d).2, e ∈ out ∨ e.d.a = d.a := by
  induction W generalizing s out with
  | nil => exact fun e he => .inl he
  | cons i W ih =>
    intro e he
    have he : e ∈ (sendAll (numS s i) (out ++ [⟨i, stampD s i d⟩]) W d).2 := he
    rcases ih (numS s i) (out ++ [⟨i, stampD s i d⟩]) e he with h | h
    · rcases List.mem_append.1 h with h | h
      · exact .inl h
      · simp only [List.mem_singleton] at h
        subst h
        exact .inr rfl
    · exact .inr h

theorem flushR_a (r : Nat → Int) (N : Nat) (n : Nat) : ∀ (f : FlS), QOk r N f.L → (∀ e ∈ f.out, ∃ j : Nat, j < N ∧ e.d.a = j) → ∀ e ∈ (flushR n f).out, ∃ j : Nat, j < N ∧ e.d.a = j := by
  induction n with
  | zero => exact fun f _ h => h
  | succ n ih =>
    intro f h hk
    unfold flushR
    split
    · exact hk
    · rename_i hz
      have h0 : 0 < f.L.length := by omega
      split
      · refine ih (sent f) (h.take h0) ?_
        intro e he
        rcases sendAll_a f.s f.out _ _ e he with he | he
        · exact hk e he
        · obtain ⟨j, hj, _, _, h3, _⟩ := h.good _ (Hp.nth_mem f.L 0 h0)
          exact ⟨j, hj, by rw [he, h3]⟩
      · exact hk

theorem flushS_a {r : Nat → Int} {N : Nat} {s : SendS} {k : BuckS} {L : List It} (h : QOk r N L) : ∀ e ∈ (flushS s k L).out, ∃ j : Nat, j < N ∧ e.d.a = j :=
  flushR_a r N _ ⟨s, k, [], L⟩ h (by simp)

/-- Sender's numbers behind a flush. -/
theorem flushR_held' (n : Nat) : ∀ (f : FlS), (flushR n f).s.dropped = f.s.dropped ∧ f.s.held ≤ (flushR n f).s.held ∧ (flushR n f).s.held ≤ f.s.held + 1 ∧ (flushR n f).s.session = f.s.session ∧ (flushR n f).s.now = f.s.now := by
  induction n with
  | zero => exact fun f => ⟨rfl, by simp [flushR], by simp [flushR]; omega, rfl, rfl⟩
  | succ n ih =>
    intro f
    unfold flushR
    split
    · exact ⟨rfl, by omega, by omega, rfl, rfl⟩
    · split
      · obtain ⟨h1, h2, h3, h4, h5⟩ := ih (sent f)
        obtain ⟨k1, k2, k3, k4, k5, k6, k7⟩ := sendAll_kept f.s f.out (waysS f.s f.k (Hp.nth f.L 0)) (Hp.nth f.L 0).d
        have e : (sent f).s = (sendAll f.s f.out (waysS f.s f.k (Hp.nth f.L 0)) (Hp.nth f.L 0).d).1 := rfl
        rw [← e] at k3 k4 k5 k6
        exact ⟨h1.trans k4, by omega, by omega, h4.trans k5, h5.trans k6⟩
      · exact ⟨rfl, by show f.s.held ≤ f.s.held + 1; omega, by show f.s.held + 1 ≤ f.s.held + 1; omega, rfl, rfl⟩

theorem flushR_mem (n : Nat) : ∀ (f : FlS), (∀ x ∈ (flushR n f).L, x ∈ f.L) ∧ (flushR n f).L.length ≤ f.L.length := by
  induction n with
  | zero => exact fun f => ⟨fun x hx => hx, Nat.le_refl _⟩
  | succ n ih =>
    intro f
    unfold flushR
    split
    · exact ⟨fun x hx => hx, Nat.le_refl _⟩
    · rename_i hz
      have h0 : 0 < f.L.length := by omega
      split
      · have h := ih (sent f)
        refine ⟨fun x hx => Go.Mm.take_mem f.L h0 x (h.1 x hx), Nat.le_trans h.2 ?_⟩
        show (Hp.take _ f.L 0).length ≤ _
        rw [Go.Mm.take_len f.L h0]; omega
      · exact ⟨fun x hx => hx, Nat.le_refl _⟩

/-- A push of the next one. -/
theorem push_good {r : Nat → Int} {N : Nat} {L : List It} (h : QOk r N L) (x : It) (hx : x.rank = r N ∧ x.turn = N + 1 ∧ x.d.a = N ∧ x.d.dl = 0) : QOk r (N + 1) (Hp.push Go.Proofs.Ytppnaeedangndaa.ahead L x) :=
  ⟨Hp.push_heap ords_ahead L x h.heap, fun y hy => by
    rcases List.mem_cons.1 ((Hp.push_perm Go.Proofs.Ytppnaeedangndaa.ahead L x).subset hy) with e | hy
    · subst e; exact ⟨N, by omega, hx.1, hx.2.1, hx.2.2.1, hx.2.2.2⟩
    · obtain ⟨j, hj, r⟩ := h.good y hy
      exact ⟨j, by omega, r⟩⟩

end Go.Mm
