/- What goes at once: the plain side. -/
import Derived.Test.YtppnaeedangndaaTick
namespace Go.Mm
open Go.Proofs.Ytppnaeedangndaa

structure FlS where
  s : SendS
  k : BuckS
  out : List SentS
  L : List It

/-- How many bytes go by so many ways. -/
def costS (x : It) (n : Nat) : Int := ((33 + x.d.dl : Nat) : Int) * (n : Int)

/-- By which ways one goes. -/
def waysS (s : SendS) (k : BuckS) (x : It) : List Nat :=
  if (chooseS s x.rank).length = 2 ∧ mayB k (costS x 2) = false then (chooseS s x.rank).take 1 else chooseS s x.rank

def sendOne (d : DG) (p : SendS × List SentS) (i : Nat) : SendS × List SentS := (numS p.1 i, p.2 ++ [⟨i, stampD p.1 i d⟩])
def sendAll (s : SendS) (out : List SentS) (W : List Nat) (d : DG) : SendS × List SentS := W.foldl (sendOne d) (s, out)

def goes (f : FlS) : Bool := mayB f.k (costS (Hp.nth f.L 0) (waysS f.s f.k (Hp.nth f.L 0)).length)

def sent (f : FlS) : FlS :=
  ⟨(sendAll f.s f.out (waysS f.s f.k (Hp.nth f.L 0)) (Hp.nth f.L 0).d).1, takeB f.k (costS (Hp.nth f.L 0) (waysS f.s f.k (Hp.nth f.L 0)).length),
   (sendAll f.s f.out (waysS f.s f.k (Hp.nth f.L 0)) (Hp.nth f.L 0).d).2, Hp.take Go.Proofs.Ytppnaeedangndaa.ahead f.L 0⟩

def flushR : Nat → FlS → FlS
  | 0, f => f
  | n + 1, f => if f.L.length = 0 then f else if goes f = true then flushR n (sent f) else { f with s := { f.s with held := f.s.held + 1 } }

/-- A sender behind a flush. -/
def flushS (s : SendS) (k : BuckS) (L : List It) : FlS := flushR (L.length + 1) ⟨s, k, [], L⟩

theorem chooseS_len (s : SendS) (r : Int) : (∃ f, f < 2 ∧ chooseS s r = [f]) ∨ (∃ f, f < 2 ∧ chooseS s r = [f, 1 - f]) := by
  have h := firstP_lt s.p0 s.p1
  unfold chooseS
  split
  · split
    · exact .inr ⟨_, h, rfl⟩
    · exact .inl ⟨_, h, rfl⟩
  · exact .inl ⟨_, h, rfl⟩

theorem sendAll_kept (s : SendS) (out : List SentS) (W : List Nat) (d : DG) : (sendAll s out W d).1.bk = s.bk ∧ (sendAll s out W d).1.qu = s.qu ∧ (sendAll s out W d).1.held = s.held ∧ (sendAll s out W d).1.dropped = s.dropped ∧ (sendAll s out W d).1.session = s.session ∧ (sendAll s out W d).1.now = s.now ∧ (sendAll s out W d).2.length = out.length + W.length := by
  induction W generalizing s out with
  | nil => exact ⟨rfl, rfl, rfl, rfl, rfl, rfl, rfl⟩
  | cons i W ih =>
    obtain ⟨h1, h2, h3, h4, h5, h6, h7⟩ := ih (numS s i) (out ++ [⟨i, stampD s i d⟩])
    obtain ⟨k1, k2, k3, k4, k5, k6⟩ := setWay_kept s i { wayAt s i with next := IntKind.u32.wrap ((wayAt s i).next + 1) }
    refine ⟨h1.trans k1, h2.trans k2, h3.trans k6, h4.trans k5, h5.trans k3, h6.trans k4, h7.trans ?_⟩
    simp; omega

theorem sendAll_ok (s : SendS) (out : List SentS) (W : List Nat) (d : DG) (h0 : s.p0.Ok) (h1 : s.p1.Ok) : (sendAll s out W d).1.p0.Ok ∧ (sendAll s out W d).1.p1.Ok := by
  induction W generalizing s out with
  | nil => exact ⟨h0, h1⟩
  | cons i W ih => exact ih (numS s i) _ (numS_ok s i h0 h1).1 (numS_ok s i h0 h1).2

theorem sendAll_snoc (s : SendS) (out : List SentS) (W : List Nat) (i : Nat) (d : DG) : sendAll s out (W ++ [i]) d = sendOne d (sendAll s out W d) i := by
  simp [sendAll, List.foldl_append]

theorem waysS_len (s : SendS) (k : BuckS) (x : It) : (waysS s k x).length = 1 ∨ (waysS s k x).length = 2 := by
  unfold waysS
  rcases chooseS_len s x.rank with ⟨f, _, h⟩ | ⟨f, _, h⟩ <;> rw [h] <;> split <;> simp_all

theorem waysS_lt (s : SendS) (k : BuckS) (x : It) : ∀ i ∈ waysS s k x, i < 2 := by
  intro i hi
  have : i ∈ chooseS s x.rank := by
    unfold waysS at hi
    split at hi
    · exact List.mem_of_mem_take hi
    · exact hi
  rcases chooseS_len s x.rank with ⟨f, _, h⟩ | ⟨f, _, h⟩ <;> rw [h] at this <;> simp at this <;> omega

theorem take_mem (L : List It) (h : 0 < L.length) (x : It) (hx : x ∈ Hp.take Go.Proofs.Ytppnaeedangndaa.ahead L 0) : x ∈ L :=
  (Hp.take_perm Go.Proofs.Ytppnaeedangndaa.ahead L 0 h).symm.subset (List.mem_cons_of_mem _ hx)

theorem take_len (L : List It) (h : 0 < L.length) : (Hp.take Go.Proofs.Ytppnaeedangndaa.ahead L 0).length = L.length - 1 := Hp.length_take Go.Proofs.Ytppnaeedangndaa.ahead L 0 h

end Go.Mm
