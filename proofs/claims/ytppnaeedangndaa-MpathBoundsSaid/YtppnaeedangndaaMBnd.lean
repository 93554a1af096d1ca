/- How many bytes go, and with which numbers: plain. -/
import Derived.Test.YtppnaeedangndaaFlush
import Derived.Test.YtppnaeedangndaaMOrd
import Derived.Test.YtppnaeedangndaaMHeard
namespace Go.Mm
open Go.Proofs.Ytppnaeedangndaa

/-- The numbers that come next, by each way. -/
def nx (s : SendS) : Int × Int := (s.p0.next, s.p1.next)
def nget (n : Int × Int) (i : Nat) : Int := if i = 0 then n.1 else n.2
def bump (n : Int × Int) (i : Nat) : Int × Int := if i = 0 then (IntKind.u32.wrap (n.1 + 1), n.2) else (n.1, IntKind.u32.wrap (n.2 + 1))

theorem nget_nx (s : SendS) (i : Nat) : nget (nx s) i = (wayAt s i).next := by unfold nget nx wayAt; split <;> rfl
theorem nx_numS (s : SendS) (i : Nat) : nx (numS s i) = bump (nx s) i := by unfold nx numS bump setWay wayAt; split <;> rfl

/-- The numbers behind what went. -/
def bumpAll (n : Int × Int) : List SentS → Int × Int
  | [] => n
  | e :: r => bumpAll (bump n e.way) r

/-- Each one goes by a way, with the way's next number. -/
def seqOk (n : Int × Int) : List SentS → Prop
  | [] => True
  | e :: r => e.way < 2 ∧ e.d.seq = nget n e.way ∧ e.d.path = e.way ∧ seqOk (bump n e.way) r

theorem bumpAll_append (n : Int × Int) (a b : List SentS) : bumpAll n (a ++ b) = bumpAll (bumpAll n a) b := by
  induction a generalizing n with
  | nil => rfl
  | cons e a ih => exact ih _

theorem seqOk_append (n : Int × Int) (a b : List SentS) : seqOk n (a ++ b) ↔ seqOk n a ∧ seqOk (bumpAll n a) b := by
  induction a generalizing n with
  | nil => simp [seqOk, bumpAll]
  | cons e a ih => simp only [List.cons_append, seqOk, bumpAll, ih, and_assoc]

def sizeD (d : DG) : Int := (33 + d.dl : Nat)
def sizeAll (l : List SentS) : Int := (l.map fun e => sizeD e.d).sum

theorem sizeAll_append (a b : List SentS) : sizeAll (a ++ b) = sizeAll a + sizeAll b := by simp [sizeAll]
theorem sizeAll_cons (e : SentS) (r : List SentS) : sizeAll (e :: r) = sizeD e.d + sizeAll r := by simp [sizeAll]
theorem sizeAll_nonneg (l : List SentS) : 0 ≤ sizeAll l := by
  induction l with
  | nil => exact Int.le_refl _
  | cons e l ih => rw [sizeAll_cons]; unfold sizeD; omega

/-- What is kept of a run of sends: from s and a bucket to s' and another one. -/
structure Ran (s s' : SendS) (o o' : List SentS) : Prop where
  ok : seqOk (nx s) o → seqOk (nx s) o'

theorem one_sent (s0 : SendS) (out : List SentS) (s : SendS) (i : Nat) (hi : i < 2) (d : DG) (h : seqOk (nx s0) out) (hn : nx s = bumpAll (nx s0) out) :
    seqOk (nx s0) (out ++ [⟨i, stampD s i d⟩]) ∧ nx (numS s i) = bumpAll (nx s0) (out ++ [⟨i, stampD s i d⟩]) := by
  rw [seqOk_append, bumpAll_append, ← hn]
  refine ⟨⟨h, hi, ?_, rfl, trivial⟩, nx_numS s i⟩
  rw [nget_nx]; rfl

theorem sendAll_run (s0 : SendS) (d : DG) (W : List Nat) : ∀ (s : SendS) (out : List SentS), (∀ i ∈ W, i < 2) → seqOk (nx s0) out → nx s = bumpAll (nx s0) out →
    seqOk (nx s0) (sendAll s out W d).2 ∧ nx (sendAll s out W d).1 = bumpAll (nx s0) (sendAll s out W d).2 ∧ sizeAll (sendAll s out W d).2 = sizeAll out + sizeD d * W.length := by
  induction W with
  | nil => exact fun s out _ h hn => ⟨h, hn, by simp [sendAll]⟩
  | cons i W ih =>
    intro s out hW h hn
    obtain ⟨h1, h2⟩ := one_sent s0 out s i (hW i List.mem_cons_self) d h hn
    obtain ⟨a, b, c⟩ := ih (numS s i) _ (fun j hj => hW j (List.mem_cons_of_mem _ hj)) h1 h2
    refine ⟨a, b, c.trans ?_⟩
    rw [sizeAll_append]
    have : sizeAll [⟨i, stampD s i d⟩] = sizeD d := by simp [sizeAll, sizeD, stampD]
    rw [this, List.length_cons, Int.natCast_add, Int.mul_add]
    simp
    omega

structure FlushInv (s0 : SendS) (k0 : BuckS) (f : FlS) : Prop where
  ok : seqOk (nx s0) f.out
  nxt : nx f.s = bumpAll (nx s0) f.out
  rate : f.k.rate = k0.rate
  burst : f.k.burst = k0.burst
  held : f.k.held + sizeAll f.out = k0.held

theorem takeB_spec (k : BuckS) (n : Int) (h : mayB k n = true) : (takeB k n).rate = k.rate ∧ (takeB k n).burst = k.burst ∧ (takeB k n).held = k.held - n := by
  unfold takeB; rw [if_pos h]; exact ⟨rfl, rfl, rfl⟩

theorem flushR_inv (s0 : SendS) (k0 : BuckS) (n : Nat) : ∀ f : FlS, FlushInv s0 k0 f → FlushInv s0 k0 (flushR n f) := by
  induction n with
  | zero => exact fun f h => h
  | succ n ih =>
    intro f h
    unfold flushR
    split
    · exact h
    · split
      · rename_i hg
        refine ih (sent f) ?_
        obtain ⟨a, b, c⟩ := sendAll_run s0 (Hp.nth f.L 0).d (waysS f.s f.k (Hp.nth f.L 0)) f.s f.out (waysS_lt _ _ _) h.ok h.nxt
        obtain ⟨t1, t2, t3⟩ := takeB_spec f.k (costS (Hp.nth f.L 0) (waysS f.s f.k (Hp.nth f.L 0)).length) hg
        refine ⟨a, b, t1.trans h.rate, t2.trans h.burst, ?_⟩
        show (takeB f.k _).held + sizeAll (sendAll _ _ _ _).2 = _
        have := h.held
        rw [t3, c]
        unfold costS sizeD
        omega
      · exact ⟨h.ok, h.nxt, h.rate, h.burst, h.held⟩

theorem flushS_inv (s : SendS) (k : BuckS) (L : List It) : FlushInv s k (flushS s k L) :=
  flushR_inv s k _ ⟨s, k, [], L⟩ ⟨trivial, rfl, rfl, rfl, by show k.held + sizeAll [] = _; simp [sizeAll]⟩

/-- What may be sent stays what may be sent, by whichever way. -/
theorem checkS_stamp (s : SendS) (i : Nat) (hi : i < 2) (d : DG) (l : List Int) (h : checkS d l = 0) : checkS (stampD s i d) l = 0 := by
  unfold checkS at *
  have e : formS (stampD s i d) l = formS d l := rfl
  have ek : (stampD s i d).kind = d.kind := rfl
  have ep : (stampD s i d).path = i := rfl
  rw [e, ek, ep]
  split at h
  · cases h
  · split at h
    · cases h
    · rename_i h1 h2
      rw [if_neg h1, if_neg (by simp only [not_or] at h2 ⊢; exact ⟨by omega, by omega, h2.2.2⟩)]

/-- Each of a list has a property that goes by its datagram, whatever its stamp. -/
theorem sendAll_all (P : DG → Prop) (hP : ∀ s i d, i < 2 → P d → P (stampD s i d)) (d : DG) (hd : P d) (W : List Nat) : ∀ (s : SendS) (out : List SentS), (∀ i ∈ W, i < 2) → (∀ e ∈ out, P e.d) → ∀ e ∈ (sendAll s out W d).2, P e.d := by
  induction W with
  | nil => exact fun s out _ h => h
  | cons i W ih =>
    intro s out hW h
    refine ih (numS s i) _ (fun j hj => hW j (List.mem_cons_of_mem _ hj)) ?_
    intro e he
    rcases List.mem_append.1 he with he | he
    · exact h e he
    · simp only [List.mem_singleton] at he
      subst he
      exact hP s i d (hW i List.mem_cons_self) hd

theorem flushR_all (P : DG → Prop) (hP : ∀ s i d, i < 2 → P d → P (stampD s i d)) (n : Nat) : ∀ f : FlS, (∀ x ∈ f.L, P x.d) → (∀ e ∈ f.out, P e.d) → ∀ e ∈ (flushR n f).out, P e.d := by
  induction n with
  | zero => exact fun f _ h => h
  | succ n ih =>
    intro f hL h
    unfold flushR
    split
    · exact h
    · rename_i hz
      have h0 : 0 < f.L.length := by omega
      split
      · exact ih (sent f) (fun x hx => hL x (Go.Mm.take_mem f.L h0 x hx)) (sendAll_all P hP _ (hL _ (Hp.nth_mem f.L 0 h0)) _ _ _ (waysS_lt _ _ _) h)
      · exact h

theorem flushS_all (P : DG → Prop) (hP : ∀ s i d, i < 2 → P d → P (stampD s i d)) (s : SendS) (k : BuckS) (L : List It) (hL : ∀ x ∈ L, P x.d) : ∀ e ∈ (flushS s k L).out, P e.d :=
  flushR_all P hP _ ⟨s, k, [], L⟩ hL (by simp)

theorem flushS_mem (s : SendS) (k : BuckS) (L : List It) : (∀ x ∈ (flushS s k L).L, x ∈ L) ∧ (flushS s k L).L.length ≤ L.length := flushR_mem _ ⟨s, k, [], L⟩

/-- A way's tick leaves its number and its counts. -/
theorem tickS_kept (p : PathS) : (tickS p).1.next = p.next ∧ (tickS p).1.came = p.came ∧ (tickS p).1.twice = p.twice ∧ (tickS p).1.lost = p.lost ∧ (tickS p).1.loss = p.loss ∧ (tickS p).1.marks = p.marks := by
  unfold tickS
  split
  · exact ⟨rfl, rfl, rfl, rfl, rfl, rfl⟩
  · unfold tick3 tick2 tick1
    repeat' split
    all_goals exact ⟨rfl, rfl, rfl, rfl, rfl, rfl⟩

theorem nx_setWay (s : SendS) (i : Nat) (p : PathS) (h : p.next = (wayAt s i).next) : nx (setWay s i p) = nx s := by
  unfold nx setWay wayAt at *
  split at h <;> rename_i c
  · rw [if_pos c]; simp only; rw [h]
  · rw [if_neg c]; simp only; rw [h]

structure TickInv (s0 : SendS) (k0 : BuckS) (x : Run) : Prop where
  ok : seqOk (nx s0) x.out
  nxt : nx x.s = bumpAll (nx s0) x.out
  rate : x.k.rate = k0.rate
  burst : x.k.burst = k0.burst
  held : x.k.held + sizeAll x.out ≤ k0.held + k0.rate
  all : ∀ e ∈ x.out, checkS e.d [] = 0 ∧ e.d.dl = 0

theorem tickRun_inv (s : SendS) (k : BuckS) (hk : k.Ok) (n : Nat) (hn : n ≤ 2) : TickInv s k (tickRun s k n) := by
  induction n with
  | zero =>
    refine ⟨trivial, rfl, rfl, rfl, ?_, by intro e he; cases he⟩
    show (tickB k).held + sizeAll [] ≤ _
    have := hk.rate0
    simp only [tickB, sizeAll, List.map_nil, List.sum_nil]
    omega
  | succ n ih =>
    have h := ih (by omega)
    rw [tickRun_succ]
    generalize tickRun s k n = x at *
    have hs : nx (setWay x.s n (tickS (wayAt x.s n)).1) = nx x.s := nx_setWay _ _ _ (tickS_kept _).1
    unfold tickWay
    simp only
    split
    · split
      · rename_i hm
        obtain ⟨t1, t2, t3⟩ := takeB_spec x.k 33 hm
        generalize setWay x.s n (tickS (wayAt x.s n)).1 = s1 at *
        obtain ⟨a, b⟩ := one_sent s x.out s1 n (by omega) (keepD s1.session) h.ok (hs.trans h.nxt)
        refine ⟨a, b, t1.trans h.rate, t2.trans h.burst, ?_, ?_⟩
        · show (takeB x.k 33).held + sizeAll (x.out ++ _) ≤ _
          rw [sizeAll_append, t3]
          have := h.held
          have e : sizeAll [⟨n, stampD s1 n (keepD s1.session)⟩] = 33 := by simp [sizeAll, sizeD, stampD, keepD]
          omega
        · intro e he
          rcases List.mem_append.1 he with he | he
          · exact h.all e he
          · simp only [List.mem_singleton] at he
            subst he
            exact ⟨checkS_stamp _ _ (by omega) _ _ (by simp [checkS, formS, keepD]), rfl⟩
      · exact ⟨h.ok, hs.trans h.nxt, h.rate, h.burst, h.held, h.all⟩
    · exact ⟨h.ok, hs.trans h.nxt, h.rate, h.burst, h.held, h.all⟩

/-- A push: what is in the queue then. -/
theorem pushL_mem (room : Int) (L : List It) (x : It) : ∀ y ∈ pushL room L x, y ∈ L ∨ y = x := by
  have hp : ∀ y ∈ Hp.push Go.Proofs.Ytppnaeedangndaa.ahead L x, y ∈ L ∨ y = x := fun y hy => by
    rcases List.mem_cons.1 ((Hp.push_perm Go.Proofs.Ytppnaeedangndaa.ahead L x).subset hy) with e | h
    · exact .inr e
    · exact .inl h
  intro y hy
  unfold pushL at hy
  split at hy
  · exact hp y hy
  · have hl : (Hp.push Go.Proofs.Ytppnaeedangndaa.ahead L x).length = L.length + 1 := by rw [(Hp.push_perm Go.Proofs.Ytppnaeedangndaa.ahead L x).length_eq]; simp
    have hlt : Hp.last Go.Proofs.Ytppnaeedangndaa.ahead (Hp.push Go.Proofs.Ytppnaeedangndaa.ahead L x) < (Hp.push Go.Proofs.Ytppnaeedangndaa.ahead L x).length := last_lt (Hp.push Go.Proofs.Ytppnaeedangndaa.ahead L x) (Hp.push Go.Proofs.Ytppnaeedangndaa.ahead L x).length 0 (by omega)
    exact hp y ((Hp.take_perm Go.Proofs.Ytppnaeedangndaa.ahead _ _ hlt).symm.subset (List.mem_cons_of_mem _ hy))

theorem pushL_len (room : Int) (L : List It) (x : It) (h : (L.length : Int) ≤ room) : ((pushL room L x).length : Int) ≤ room := by
  have hl : (Hp.push Go.Proofs.Ytppnaeedangndaa.ahead L x).length = L.length + 1 := by rw [(Hp.push_perm Go.Proofs.Ytppnaeedangndaa.ahead L x).length_eq]; simp
  unfold pushL
  split
  · rw [hl]; omega
  · have hlt : Hp.last Go.Proofs.Ytppnaeedangndaa.ahead (Hp.push Go.Proofs.Ytppnaeedangndaa.ahead L x) < (Hp.push Go.Proofs.Ytppnaeedangndaa.ahead L x).length := last_lt (Hp.push Go.Proofs.Ytppnaeedangndaa.ahead L x) (Hp.push Go.Proofs.Ytppnaeedangndaa.ahead L x).length 0 (by omega)
    rw [Hp.length_take Go.Proofs.Ytppnaeedangndaa.ahead _ _ hlt, hl]
    omega

end Go.Mm
