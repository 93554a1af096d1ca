/- The budget: what the walk of the law carries. -/
import Derived.Test.YtppnaeedangndaaMBnd
import Derived.Test.YtppnaeedangndaaMAwake
namespace Go.Mm

/-- A call of the law's script. -/
structure OpS where
  (kind rank : Int)
  d : DG
  (n way back : Int)

def OpS.cells (o : OpS) : List Value := .int .i64 o.kind :: .int .i64 o.rank :: (o.d.cells ++ [.int .i64 o.n, .int .i64 o.way, .int .u32 o.back])

theorem OpS.length_cells (o : OpS) : o.cells.length = 16 := rfl

theorem OpS.one (o : OpS) : ∀ u ∈ o.cells, u.oneCell' = true := by
  intro u hu
  unfold OpS.cells at hu
  rcases List.mem_cons.1 hu with h | hu
  · subst h; rfl
  rcases List.mem_cons.1 hu with h | hu
  · subst h; rfl
  rcases List.mem_append.1 hu with hu | hu
  · exact DG.one o.d u hu
  · simp at hu; rcases hu with h | h | h <;> subst h <;> rfl

end Go.Mm
namespace Go.Proofs.Ytppnaeedangndaa
open Go.RowKit Go.Mm Go.Rg

/-- A datagram that may be, with its data in memory. -/
def DOk (w : World) (d : DG) : Prop := ∃ l : List Int, l.length = d.dl ∧ (∀ i, i < d.dl → 0 ≤ l.getD i 0 ∧ l.getD i 0 ≤ 255) ∧ (0 < d.dl → ∃ g cs, d.da = some ⟨g, 0, none⟩ ∧ Blk w g 5 (bytesV l ++ cs)) ∧ checkS d l = 0

theorem DOk.keep {w w' : World} {d : DG} (h : DOk w d) {S : Nat → Prop} (hf : Fr S w w') (hS : ∀ b T cs, Blk w b T cs → S b → T ≠ 5) : DOk w' d := by
  obtain ⟨l, h1, h2, h3, h4⟩ := h
  exact ⟨l, h1, h2, fun h0 => by
    obtain ⟨g, cs, e, hb⟩ := h3 h0
    exact ⟨g, cs, e, hb.keep hf (fun hs => hS _ _ _ hb hs rfl)⟩, h4⟩

theorem DOk.hot {B : Nat} {w w' : World} {d : DG} (h : DOk w d) (hf : Fr (Hot B w) w w') : DOk w' d :=
  h.keep hf (fun b T cs hb hh => by
    obtain ⟨⟨T', cs', hb', hT⟩, _⟩ := hh
    rw [(hb.same hb').1]
    intro e
    subst e
    revert hT
    unfold hotT
    decide)

theorem DOk.no {w w' : World} {d : DG} (h : DOk w d) (hf : Fr (fun _ => False) w w') : DOk w' d := h.keep hf (fun _ _ _ _ e => e.elim)

theorem DOk.dataAt {w : World} {d : DG} (h : DOk w d) : ∃ l, DataAt w d.da d.dl l ∧ checkS d l = 0 := by
  obtain ⟨l, h1, h2, h3, h4⟩ := h
  refine ⟨l, ⟨h1, h2, fun h0 => ?_⟩, h4⟩
  obtain ⟨g, cs, e, hb⟩ := h3 h0
  refine ⟨g, 0, e, fun i hi => ?_⟩
  rw [hb.cell, Nat.zero_add, List.getElem?_append_left (by simp [bytesV]; omega)]
  simp [bytesV, h1, hi]

theorem DOk.stamp (w : World) (s : SendS) (i : Nat) (d : DG) (hi : i < 2) (h : DOk w d) : DOk w (stampD s i d) := by
  obtain ⟨l, h1, h2, h3, h4⟩ := h
  exact ⟨l, h1, h2, h3, checkS_stamp s i hi d l h4⟩

theorem DOk.small {w : World} {d : DG} (h : DOk w d) : d.dl ≤ 1200 := by
  obtain ⟨l, h1, _, _, h4⟩ := h
  exact checkS_len d l h1 h4

theorem DOk.empty (w : World) (d : DG) (h0 : d.dl = 0) (h : checkS d [] = 0) : DOk w d := ⟨[], by simp [h0], fun i hi => by omega, fun h => by omega, h⟩

/-- A sender's counts, behind so many calls. -/
structure Counts (i : Nat) (s : SendS) (turns : Int) : Prop where
  t0 : 0 ≤ turns
  t1 : turns ≤ i
  d0 : 0 ≤ s.dropped
  d1 : s.dropped ≤ i
  h0 : 0 ≤ s.held
  h1 : s.held ≤ i
  c0 : s.p0.Cnt i
  c1 : s.p1.Cnt i

theorem Counts.next {i : Nat} {s s' : SendS} {turns turns' : Int} (h : Counts i s turns) (ht : turns ≤ turns' ∧ turns' ≤ turns + 1) (hd : s.dropped ≤ s'.dropped ∧ s'.dropped ≤ s.dropped + 1) (hh : s.held ≤ s'.held ∧ s'.held ≤ s.held + 1) (h0 : s'.p0.Cnt (i + 1)) (h1 : s'.p1.Cnt (i + 1)) : Counts (i + 1) s' turns' := by
  obtain ⟨a, b, c, d, e, f, _, _⟩ := h
  exact ⟨by omega, by omega, by omega, by omega, by omega, by omega, h0, h1⟩

/-- Two ways' counts are the same. -/
theorem cnt_same {i : Nat} {p q : PathS} (h : p.Cnt i) (e : q.came = p.came ∧ q.twice = p.twice ∧ q.lost = p.lost ∧ q.loss = p.loss ∧ q.marks = p.marks) : q.Cnt (i + 1) := by
  obtain ⟨a, b, c, d, f⟩ := e
  have h := h.mono (Nat.le_succ i)
  obtain ⟨h1, h2, h3, h4, h5, h6, h7, h8, h9, h10⟩ := h
  exact ⟨by rw [a]; exact h1, by rw [a]; exact h2, by rw [b]; exact h3, by rw [b]; exact h4, by rw [c]; exact h5, by rw [c]; exact h6, by rw [d]; exact h7, by rw [d]; exact h8, by rw [f]; exact h9, by rw [f]; exact h10⟩

/-- Counts of the ways are the same. -/
def SameC (s s' : SendS) : Prop := (s'.p0.came = s.p0.came ∧ s'.p0.twice = s.p0.twice ∧ s'.p0.lost = s.p0.lost ∧ s'.p0.loss = s.p0.loss ∧ s'.p0.marks = s.p0.marks) ∧ (s'.p1.came = s.p1.came ∧ s'.p1.twice = s.p1.twice ∧ s'.p1.lost = s.p1.lost ∧ s'.p1.loss = s.p1.loss ∧ s'.p1.marks = s.p1.marks)

theorem SameC.refl (s : SendS) : SameC s s := ⟨⟨rfl, rfl, rfl, rfl, rfl⟩, ⟨rfl, rfl, rfl, rfl, rfl⟩⟩
theorem SameC.trans {a b c : SendS} (h : SameC a b) (k : SameC b c) : SameC a c := by
  obtain ⟨⟨h1, h2, h3, h4, h5⟩, ⟨h6, h7, h8, h9, h10⟩⟩ := h
  obtain ⟨⟨k1, k2, k3, k4, k5⟩, ⟨k6, k7, k8, k9, k10⟩⟩ := k
  exact ⟨⟨k1.trans h1, k2.trans h2, k3.trans h3, k4.trans h4, k5.trans h5⟩, ⟨k6.trans h6, k7.trans h7, k8.trans h8, k9.trans h9, k10.trans h10⟩⟩

theorem sameC_setWay (s : SendS) (i : Nat) (p : PathS) (h : p.came = (wayAt s i).came ∧ p.twice = (wayAt s i).twice ∧ p.lost = (wayAt s i).lost ∧ p.loss = (wayAt s i).loss ∧ p.marks = (wayAt s i).marks) : SameC s (setWay s i p) := by
  unfold SameC setWay wayAt at *
  split at h <;> rename_i c
  · rw [if_pos c]; exact ⟨h, ⟨rfl, rfl, rfl, rfl, rfl⟩⟩
  · rw [if_neg c]; exact ⟨⟨rfl, rfl, rfl, rfl, rfl⟩, h⟩

theorem sameC_numS (s : SendS) (i : Nat) : SameC s (numS s i) := sameC_setWay s i _ ⟨rfl, rfl, rfl, rfl, rfl⟩

theorem sameC_sendAll (d : DG) (W : List Nat) : ∀ (s : SendS) (out : List SentS), SameC s (sendAll s out W d).1 := by
  induction W with
  | nil => exact fun s _ => SameC.refl s
  | cons i W ih => exact fun s out => (sameC_numS s i).trans (ih (numS s i) _)

theorem sameC_flushR (n : Nat) : ∀ f : FlS, SameC f.s (flushR n f).s := by
  induction n with
  | zero => exact fun f => SameC.refl _
  | succ n ih =>
    intro f
    unfold flushR
    split
    · exact SameC.refl _
    · split
      · exact (sameC_sendAll _ _ _ _).trans (ih (sent f))
      · exact ⟨⟨rfl, rfl, rfl, rfl, rfl⟩, ⟨rfl, rfl, rfl, rfl, rfl⟩⟩

theorem sameC_tickRun (s : SendS) (k : BuckS) (n : Nat) : SameC s (tickRun s k n).s := by
  induction n with
  | zero => exact ⟨⟨rfl, rfl, rfl, rfl, rfl⟩, ⟨rfl, rfl, rfl, rfl, rfl⟩⟩
  | succ n ih =>
    rw [tickRun_succ]
    refine ih.trans ?_
    generalize tickRun s k n = x
    obtain ⟨t1, t2, t3, t4, t5, t6⟩ := tickS_kept (wayAt x.s n)
    have h1 := sameC_setWay x.s n (tickS (wayAt x.s n)).1 ⟨t2, t3, t4, t5, t6⟩
    unfold tickWay
    simp only
    split
    · split
      · exact h1.trans (sameC_numS _ _)
      · exact h1
    · exact h1

theorem Counts.same {i : Nat} {s s' : SendS} {turns turns' : Int} (h : Counts i s turns) (ht : turns ≤ turns' ∧ turns' ≤ turns + 1) (hd : s.dropped ≤ s'.dropped ∧ s'.dropped ≤ s.dropped + 1) (hh : s.held ≤ s'.held ∧ s'.held ≤ s.held + 1) (hs : SameC s s') : Counts (i + 1) s' turns' :=
  h.next ht hd hh (cnt_same h.c0 hs.1) (cnt_same h.c1 hs.2)

/-- What is behind a call of the script. -/
structure After (B : Nat) (w : World) (bs bn : Nat) (room : Int) (i : Nat) (s : SendS) (k : BuckS) (P : Int) (s' : SendS) (k' : BuckS) (turns' : Int) (L' : List It) (P' : Int) (outs : List SentS) (v : Value) (wx : World) : Prop where
  row : wx.ownsRow w.heap.size 38 12 v outs.length (flatSent outs)
  sender : IsS B wx bs s' k' room turns' L'
  items : ∀ x ∈ L', DOk wx x.d
  len : (L'.length : Int) ≤ room
  all : ∀ e ∈ outs, DOk wx e.d
  ok : seqOk (nx s) outs
  nxt : nx s' = bumpAll (nx s) outs
  rate : k'.rate = k.rate
  burst : k'.burst = k.burst
  held : k'.held + sizeAll outs + P ≤ k.held + P'
  cnt : Counts (i + 1) s' turns'
  next : Blk wx bn 41 [.int .u32 (nx s).1, .int .u32 (nx s).2]
  fr : Fr (fun _ => False) w wx

theorem Counts.way {i : Nat} {s : SendS} {turns : Int} (h : Counts i s turns) (j : Nat) : (wayAt s j).Cnt i := by unfold wayAt; split; exact h.c0; exact h.c1

theorem Counts.heard {i : Nat} {s : SendS} {turns : Int} (h : Counts i s turns) (j : Nat) (n : Int) : Counts (i + 1) (setWay s j (heardS (wayAt s j) n).1) turns := by
  have hc := heardS_cnt (wayAt s j) n i (h.way j)
  obtain ⟨k1, k2, k3, k4, k5, k6⟩ := setWay_kept s j (heardS (wayAt s j) n).1
  refine h.next (by omega) (by rw [k5]; omega) (by rw [k6]; omega) ?_ ?_
  · unfold setWay; split; exact hc; exact h.c0.mono (Nat.le_succ i)
  · unfold setWay; split; exact h.c1.mono (Nat.le_succ i); exact hc

theorem flatSent_one (l : List SentS) : ∀ u ∈ flatSent l, u.oneCell' = true := by
  intro u hu
  obtain ⟨e, _, he⟩ := List.mem_flatMap.1 hu
  exact SentS.one e u he

theorem flatSent_append (a b : List SentS) : flatSent (a ++ b) = flatSent a ++ flatSent b := by simp [flatSent]

/-- A row, as a slice. -/
theorem row_form2 {w : World} {base : Nat} {e : TypeId} {size : Nat} {v : Value} {n : Nat} {xs : List Value} (h : w.ownsRow base e size v n xs) : ∃ A c, v = .slice A n c ∧ n ≤ c ∧ c ≤ 9223372036854775807 ∧ (0 < n → ∃ g sp, A = some ⟨g, 0, none⟩ ∧ Blk w g e (xs ++ sp)) := by
  by_cases hn : 0 < n
  · obtain ⟨g, cap, sp, rfl, hb, hc, hm, _⟩ := owns_blk (owns_zero h) hn
    exact ⟨_, cap, rfl, hc, by unfold maxLen at hm; omega, fun _ => ⟨g, sp, rfl, hb⟩⟩
  · obtain rfl : n = 0 := by omega
    rcases h.2 with ⟨rfl, _⟩ | ⟨g, cap, cur, rfl, _, _, hc, hm, _⟩
    · exact ⟨none, 0, rfl, Nat.le_refl _, by omega, fun h => by omega⟩
    · exact ⟨_, cap, rfl, hc, by unfold maxLen at hm; omega, fun h => by omega⟩

theorem wpList_append_none {P : Program} {ops : Array Oper} {o : Oper} {a : Act} {w : World} {rest : List Oper} {Q : Exit → Act → World → Prop} (hgd : o.guard = none) (s x : Operand) (t : TypeId) (ho : o.op = .call { callee := .builtin .append, args := #[s, x], argTypes := #[t, t] })
    (e : TypeId) (hi : (P.info? e).isSome = true) (ht : P.underlying t = some (.slice e)) (base : Option Addr) (n c : Nat) (hs : a.eval s = .slice base n c) (hle : n ≤ c)
    (ad : Option Addr) (c' : Nat) (hx : a.eval x = .slice ad 0 c') (h : wpList P ops Q rest (a.put o.dst (.slice base n c)) w) : wpList P ops Q (o :: rest) a w :=
  wpList_plain hgd fun _ hK => wp_append_none s x t ho e hi ht base n c hs hle ad c' hx (hK _ _ h)

/-- A whole row behind another one, empty perhaps. -/
theorem wpList_append_any {P : Program} {ops : Array Oper} {o : Oper} {a : Act} {w : World} {rest : List Oper} {Q : Exit → Act → World → Prop} (base : Nat) (hgd : o.guard = none) (s x : Operand) (t : TypeId) (ho : o.op = .call { callee := .builtin .append, args := #[s, x], argTypes := #[t, t] })
    (e : TypeId) (i : TypeInfo) (z : Value) (size bytes : Nat) (ht : P.underlying t = some (.slice e)) (hi : P.info? e = some i) (hz : i.zero = some z)
    (hsize : i.size = size) (hby : i.bytes = bytes) (hzs : z.cells.size = size) (hsz : 0 < size) (v : Value) (n : Nat) (xs : List Value) (hs : a.eval s = v) (hown : w.ownsRow base e size v n xs) (hbase : base ≤ w.heap.size)
    (u : Value) (m : Nat) (news : List Value) (hx : a.eval x = u) (base2 : Nat) (hu : w.ownsRow base2 e size u m news) (h1 : ∀ u ∈ news, u.oneCell' = true)
    (h63 : n + m ≤ maxLen) (hbytes : (n + m) * bytes ≤ 140737488355328)
    (h : ∀ v' w', w'.ownsRow base e size v' (n + m) (xs ++ news) → Fr (fun b => some b = v.ownBlock) w w' → wpList P ops Q rest (a.put o.dst v') w') : wpList P ops Q (o :: rest) a w := by
  obtain ⟨A, c, rfl, hle, _, hA⟩ := row_form2 hu
  by_cases hm : 0 < m
  · obtain ⟨g, sp, rfl, _⟩ := hA hm
    exact wpList_append_base base hgd s x t ho e i z size bytes ht hi hz hsize hby hzs hsz v n xs hs hown hbase ⟨g, 0, none⟩ m c news hx hu.1 (hu.cells (g := g) rfl) h1 h63 hbytes hm h
  · obtain rfl : m = 0 := by omega
    obtain rfl : news = [] := List.eq_nil_of_length_eq_zero (by rw [hu.1]; simp)
    obtain ⟨A', c', rfl, hle', _, _⟩ := row_form2 hown
    exact wpList_append_none hgd s x t ho e (by rw [hi]; rfl) ht A' n c' hs hle' A c hx (h _ _ (by simpa using hown) (Fr.refl _ _))

/-- Between two ticks of the law's. -/
structure TSt (B : Nat) (w : World) (bs bn bz bo : Nat) (room : Int) (zc oc : List Value) (s : SendS) (k : BuckS) (turns : Int) (L : List It) (j : Nat) (s' : SendS) (k' : BuckS) (outs : List SentS) (v : Value) (wx : World) : Prop where
  row : wx.ownsRow w.heap.size 38 12 v outs.length (flatSent outs)
  sender : IsS B wx bs s' k' room turns L
  items : ∀ x ∈ L, DOk wx x.d
  all : ∀ e ∈ outs, DOk wx e.d
  ok : seqOk (nx s) outs
  nxt : nx s' = bumpAll (nx s) outs
  rate : k'.rate = k.rate
  burst : k'.burst = k.burst
  held : k'.held + sizeAll outs ≤ k.held + k.rate * j
  few : outs.length ≤ 2 * j
  same : SameC s s'
  dr : s'.dropped = s.dropped
  hd : s'.held = s.held
  next : Blk wx bn 41 [.int .u32 (nx s).1, .int .u32 (nx s).2]
  opb : Blk wx bo 43 oc
  zb : Blk wx bz 23 zc
  fr : Fr (fun _ => False) w wx

/-- One more tick: what it sent is behind what went. -/
theorem TSt.tick {B : Nat} {w : World} {bs bn bz bo : Nat} {room : Int} {zc oc : List Value} {s : SendS} {k : BuckS} {turns : Int} {L : List It} {j : Nat} {s' : SendS} {k' : BuckS} {outs : List SentS} {v : Value} {wx : World}
    (h : TSt B w bs bn bz bo room zc oc s k turns L j s' k' outs v wx) (hB : w.heap.size ≤ B) {w5 : World} (hs5 : IsS B w5 bs (tickRun s' k' 2).s (tickRun s' k' 2).k room turns L) (hf5 : Fr (Hot B wx) wx w5) :
    w5.ownsRow w.heap.size 38 12 v outs.length (flatSent outs) ∧
    ∀ (v6 : Value) (w6 : World), w6.ownsRow w.heap.size 38 12 v6 (outs ++ (tickRun s' k' 2).out).length (flatSent (outs ++ (tickRun s' k' 2).out)) → Fr (fun b => some b = v.ownBlock) w5 w6 →
      TSt B w bs bn bz bo room zc oc s k turns L (j + 1) (tickRun s' k' 2).s (tickRun s' k' 2).k (outs ++ (tickRun s' k' 2).out) v6 w6 := by
  have hrow5 : w5.ownsRow w.heap.size 38 12 v outs.length (flatSent outs) := Fr.owns h.row hf5 (fun b hb hh => by
    obtain ⟨⟨T', cs', hb', hT⟩, _⟩ := hh
    exact owns_ne h.row hb' (fun e => by subst e; revert hT; unfold hotT; decide) b hb rfl)
  refine ⟨hrow5, fun v6 w6 h6 hf6 => ?_⟩
  have TI := tickRun_inv s' k' h.sender.okb 2 (Nat.le_refl 2)
  obtain ⟨r1, r2, r3, r4, r5⟩ := tickRun_s s' k' 2
  have rlen := tickRun_len s' k' 2
  have hsm := sameC_tickRun s' k' 2
  generalize tickRun s' k' 2 = X at *
  have hS : ∀ b T cs, Blk w5 b T cs → some b = v.ownBlock → T = 38 := fun b T cs hb e => by
    by_cases c : T = 38
    · exact c
    · exact absurd rfl (owns_ne hrow5 hb c b e.symm)
  have keepB : ∀ b T cs, Blk wx b T cs → ¬ hotT T → T ≠ 38 → Blk w6 b T cs := fun b T cs hb hT hne => (Hot.blk hb hT hf5).keep hf6 (fun e => hne (hS _ _ _ (Hot.blk hb hT hf5) e))
  have keepD : ∀ d, DOk wx d → DOk w6 d := fun d hd => (hd.hot hf5).keep hf6 (fun b T cs hb e => by rw [hS _ _ _ hb e]; decide)
  refine ⟨h6, hs5.keepOwn hrow5 (by unfold hotT; decide) hf6, fun x hx => keepD _ (h.items x hx), ?_, ?_, ?_, TI.rate.trans h.rate, TI.burst.trans h.burst, ?_, ?_, h.same.trans hsm, r4.trans h.dr, r5.trans h.hd, keepB _ _ _ h.next (by unfold hotT; decide) (by decide), keepB _ _ _ h.opb (by unfold hotT; decide) (by decide), keepB _ _ _ h.zb (by unfold hotT; decide) (by decide), ?_⟩
  · intro e he
    rcases List.mem_append.1 he with he | he
    · exact keepD _ (h.all e he)
    · exact DOk.empty _ _ (TI.all e he).2 (TI.all e he).1
  · rw [seqOk_append]
    exact ⟨h.ok, by rw [← h.nxt]; exact TI.ok⟩
  · rw [bumpAll_append, ← h.nxt]
    exact TI.nxt
  · rw [sizeAll_append]
    have h1 := h.held
    have h2 := TI.held
    have h3 := h.rate
    have h4 : k.rate * ((j + 1 : Nat) : Int) = k.rate * j + k.rate := by rw [Int.natCast_add, Int.mul_add]; simp
    omega
  · rw [List.length_append]
    have := h.few
    omega
  · exact (Hot.new h.fr hB hf5).then hf6 (fun b hb e => by have := (hrow5.lt b e.symm).1; omega)

end Go.Proofs.Ytppnaeedangndaa
