/- More laws for regions that draw: a cell or a struct that stays readable in a class of worlds; append onto an owned row. Program-free. -/
import Derived.Test.YtppnaeedangndaaLaws
namespace Go.Mm
open Go.RowKit Go.Rg
section
variable {P : Program} {ops : Array Oper} {C : World → Prop} {kd : Nat → Nat} {o : Oper} {a : Act} {w : World} {rest : List Oper}

/-- One cell is loaded, in a region that draws: it reads so in every world of the class (kind 0). -/
theorem wpT_load1Q {Q : Act → World → Prop} {k : Nat} (hg : Region.wanted o (yielded ops a.tmps) = true) (h0 : kd k = 0) (ty : TypeId) (x : Operand) (ho : o.op = .load ty x) (b off : Nat) (hx : a.eval x = .pointer (some ⟨b, off, none⟩)) (v : Value) (h : ∀ w', C w' → w'.cell? ⟨b, off, none⟩ = some v)
    {d : TypeDesc} (hu : P.underlying ty = some d) (hd : isAggD d = false) (hk : wpT P ops C kd Q (k + 1) rest (a.put o.dst v) w) : wpT P ops C kd Q k (o :: rest) a w := by
  rw [wpT_cons, if_pos hg, if_pos h0]
  exact ⟨_, fun w' hw' => exec_load1 ho hx hu hd (h w' hw'), hk⟩

/-- A struct is loaded, in a region that draws: it reads so in every world of the class (kind 0). -/
theorem wpT_load_aggQ {Q : Act → World → Prop} {k : Nat} (hg : Region.wanted o (yielded ops a.tmps) = true) (h0 : kd k = 0) (ty : TypeId) (x : Operand) (ho : o.op = .load ty x) (b off : Nat) (hx : a.eval x = .pointer (some ⟨b, off, none⟩)) (vs : List Value) (h : ∀ w', C w' → Reads w' b off vs)
    {d : TypeDesc} (hu : P.underlying ty = some d) (hd : isAggD d = true) (hi : (P.info? ty).map (·.size) = some vs.length) (hk : wpT P ops C kd Q (k + 1) rest (a.put o.dst (.agg vs.toArray)) w) : wpT P ops C kd Q k (o :: rest) a w := by
  rw [wpT_cons, if_pos hg, if_pos h0]
  exact ⟨_, fun w' hw' => exec_load ho hx hu hd hi (h w' hw'), hk⟩

theorem Fr.owns {S : Nat → Prop} {w w' : World} {base : Nat} {e : TypeId} {size : Nat} {v : Value} {n : Nat} {xs : List Value} (h : w.ownsRow base e size v n xs) (hf : Fr S w w') (hn : ∀ b, v.ownBlock = some b → ¬ S b) : w'.ownsRow base e size v n xs := by
  obtain ⟨h1, h2⟩ := h
  refine ⟨h1, ?_⟩
  rcases h2 with h2 | ⟨g, cap, cur, hv, hg, hh, r⟩
  · exact .inl h2
  · refine .inr ⟨g, cap, cur, hv, hg, ?_, r⟩
    rw [hf.block g (Array.getElem?_eq_some_iff.1 hh).1 (hn g (by simp [hv, Value.ownBlock]))]
    exact hh

/-- An owned row, by its block. -/
theorem owns_blk {w : World} {e : TypeId} {size : Nat} {v : Value} {n : Nat} {xs : List Value} (h : w.ownsRow 0 e size v n xs) (hn : 0 < n) :
    ∃ g cap sp, v = .slice (some ⟨g, 0, none⟩) n cap ∧ Blk w g e (xs ++ sp) ∧ n ≤ cap ∧ cap ≤ maxLen ∧ (xs ++ sp).length = cap * size := by
  obtain ⟨h1, h2⟩ := h
  rcases h2 with ⟨_, h2⟩ | ⟨g, cap, cur, hv, _, hh, hc, hm, hs, ht⟩
  · omega
  · refine ⟨g, cap, cur.toList.drop (n * size), hv, ⟨?_⟩, hc, hm, ?_⟩
    · rw [hh, ← ht, List.take_append_drop]
    · rw [← ht, List.take_append_drop]; simpa using hs

theorem owns_of_blk {w : World} {e : TypeId} {size : Nat} {n : Nat} {xs sp : List Value} {g cap : Nat} (h : Blk w g e (xs ++ sp)) (h1 : xs.length = n * size) (hc : n ≤ cap) (hm : cap ≤ maxLen) (hs : (xs ++ sp).length = cap * size) :
    w.ownsRow 0 e size (.slice (some ⟨g, 0, none⟩) n cap) n xs :=
  ⟨h1, .inr ⟨g, cap, (xs ++ sp).toArray, rfl, Nat.zero_le _, h.eq, hc, hm, by simpa using hs, by simp [← h1]⟩⟩

/-- append onto an owned row, and where the row then lies: where it lay, or in a new block. -/
theorem run_append_where (w : World) (t ty e : TypeId) (i : TypeInfo) (z : Value) (size bytes : Nat) (ht : P.underlying t = some (.slice e)) (hi : P.info? e = some i) (hz : i.zero = some z)
    (hsize : i.size = size) (hby : i.bytes = bytes) (hzs : z.cells.size = size) (hsz : 0 < size) (v : Value) (n : Nat) (xs : List Value) (hown : w.ownsRow 0 e size v n xs)
    (a : Addr) (m c : Nat) (news : List Value) (hl : news.length = m * size) (hnews : ∀ j u, news[j]? = some u → w.cell? (a.add j) = some u) (h1 : ∀ u ∈ news, u.oneCell' = true)
    (h63 : n + m ≤ maxLen) (hbytes : (n + m) * bytes ≤ 140737488355328) (h0 : 0 < m) :
    ∃ v' w', (Builtin.append_ #[t, t] ty #[v, .slice (some a) m c]).run P w = .ok v' w' ∧ w'.ownsRow 0 e size v' (n + m) (xs ++ news) ∧ w.grownBy w' v.ownBlock ∧
      (v'.ownBlock = v.ownBlock ∨ ∀ b, v'.ownBlock = some b → w.heap.size ≤ b) := by
  obtain ⟨v', w', hr, h2, h3, _⟩ := run_append_own (P := P) w 0 t ty e i z size bytes ht hi hz hsize hby hzs hsz v n xs hown a m c news hl hnews h1 h63 hbytes (Nat.zero_le _)
  refine ⟨v', w', hr, h2, h3, ?_⟩
  subst hsize
  subst hby
  have hsmall : n + m ≤ 9223372036854775807 := by simp only [maxLen] at h63; omega
  rcases hown.2 with ⟨rfl, rfl⟩ | ⟨g, cap, cur, rfl, hbg, hg, hnc, hcm, hcs, htake⟩
  · have hr2 := run_append_nil (P := P) w t ty e i z ht hi hz a m c news hl hnews h0 (by omega) (by simp only [Nat.zero_add] at hbytes; omega)
    rw [hr] at hr2
    simp only [Result.ok.injEq] at hr2
    refine .inr fun b hb => ?_
    rw [hr2.1] at hb
    simp [Value.ownBlock] at hb
    omega
  · by_cases hroom : n + m ≤ cap
    · have hfit : n * i.size + news.length ≤ cur.size := by rw [hl, hcs, ← Nat.add_mul]; exact Nat.mul_le_mul_right _ hroom
      have hr2 := run_append_room (P := P) w t ty e i ht hi g n cap cur hg a m c news hl hnews h1 hroom hfit
      rw [hr] at hr2
      simp only [Result.ok.injEq] at hr2
      exact .inl (by rw [hr2.1]; rfl)
    · have holds : ∀ j u, xs[j]? = some u → w.cell? ((⟨g, 0, none⟩ : Addr).add j) = some u := hown.cells (g := g) rfl
      have hr2 := run_append_grow (P := P) w t ty e i z ht hi hz ⟨g, 0, none⟩ n cap xs hown.1 holds a m c news hl hnews (by omega) (by omega) (growslice_fits (by omega) hbytes)
      rw [hr] at hr2
      simp only [Result.ok.injEq] at hr2
      refine .inr fun b hb => ?_
      rw [hr2.1] at hb
      simp [Value.ownBlock] at hb
      omega

theorem wp_append_where {K : Act → World → Prop} {Q : Exit → Act → World → Prop} (s x : Operand) (t : TypeId) (ho : o.op = .call { callee := .builtin .append, args := #[s, x], argTypes := #[t, t] })
    (e : TypeId) (i : TypeInfo) (z : Value) (size bytes : Nat) (ht : P.underlying t = some (.slice e)) (hi : P.info? e = some i) (hz : i.zero = some z)
    (hsize : i.size = size) (hby : i.bytes = bytes) (hzs : z.cells.size = size) (hsz : 0 < size) (v : Value) (n : Nat) (xs : List Value) (hs : a.eval s = v) (hown : w.ownsRow 0 e size v n xs)
    (ad : Addr) (m c : Nat) (news : List Value) (hx : a.eval x = .slice (some ad) m c) (hl : news.length = m * size) (hnews : ∀ j u, news[j]? = some u → w.cell? (ad.add j) = some u) (h1 : ∀ u ∈ news, u.oneCell' = true)
    (h63 : n + m ≤ maxLen) (hbytes : (n + m) * bytes ≤ 140737488355328) (h0 : 0 < m)
    (h : ∀ v' w', w'.ownsRow 0 e size v' (n + m) (xs ++ news) → w.grownBy w' v.ownBlock → (v'.ownBlock = v.ownBlock ∨ ∀ b, v'.ownBlock = some b → w.heap.size ≤ b) → K (a.put o.dst v') w') : o.wp P a w K Q := by
  obtain ⟨v', w', hr, h2, h3, h4⟩ := run_append_where (P := P) w t o.type e i z size bytes ht hi hz hsize hby hzs hsz v n xs hown ad m c news hl hnews h1 h63 hbytes h0
  unfold Oper.wp execOp
  simp only [ho, resolve, invoke, builtin, Sem.run_bind, Sem.run_pure, Result.andThen_ok, List.map_toArray, List.map_cons, List.map_nil, hs, hx, hr]
  exact h v' w' h2 h3 h4

/-- .. in a walk. -/
theorem wpList_append_where {Q : Exit → Act → World → Prop} (hgd : o.guard = none) (s x : Operand) (t : TypeId) (ho : o.op = .call { callee := .builtin .append, args := #[s, x], argTypes := #[t, t] })
    (e : TypeId) (i : TypeInfo) (z : Value) (size bytes : Nat) (ht : P.underlying t = some (.slice e)) (hi : P.info? e = some i) (hz : i.zero = some z)
    (hsize : i.size = size) (hby : i.bytes = bytes) (hzs : z.cells.size = size) (hsz : 0 < size) (v : Value) (n : Nat) (xs : List Value) (hs : a.eval s = v) (hown : w.ownsRow 0 e size v n xs)
    (ad : Addr) (m c : Nat) (news : List Value) (hx : a.eval x = .slice (some ad) m c) (hl : news.length = m * size) (hnews : ∀ j u, news[j]? = some u → w.cell? (ad.add j) = some u) (h1 : ∀ u ∈ news, u.oneCell' = true)
    (h63 : n + m ≤ maxLen) (hbytes : (n + m) * bytes ≤ 140737488355328) (h0 : 0 < m)
    (h : ∀ v' w', w'.ownsRow 0 e size v' (n + m) (xs ++ news) → w.grownBy w' v.ownBlock → (v'.ownBlock = v.ownBlock ∨ ∀ b, v'.ownBlock = some b → w.heap.size ≤ b) → wpList P ops Q rest (a.put o.dst v') w') : wpList P ops Q (o :: rest) a w :=
  wpList_plain hgd fun _ hK => wp_append_where s x t ho e i z size bytes ht hi hz hsize hby hzs hsz v n xs hs hown ad m c news hx hl hnews h1 h63 hbytes h0 (fun v' w' a b c => hK _ _ (h v' w' a b c))

/-- Results: one in memory, then one or two in slots. -/
theorem results_mem1 {fn : Func} {p t : Tmp} {ty : TypeId} (h : fn.results = #[.cell p ty, .tmp t]) (tmps : Array Value) (w : World) (b off : Nat) (vs : List Value) (hp : tmps.getD p undef = .pointer (some ⟨b, off, none⟩)) (hr : Reads w b off vs)
    {d : TypeDesc} (hu : P.underlying ty = some d) (hd : isAggD d = true) (hi : (P.info? ty).map (·.size) = some vs.length) : (results fn tmps).run P w = .ok (.tuple #[.agg vs.toArray, tmps.getD t undef]) w := by
  have hl := run_loadAt_agg (P := P) hu hd hi hr
  simp only [Instr.loadAt, Instr.sureAddr] at hl
  have hp' : tmps[p]?.getD undef = .pointer (some ⟨b, off, none⟩) := by simpa using hp
  have hl' : (loadVar ty ⟨b, off, none⟩).run P w = .ok (.agg vs.toArray) w := hl
  simp [results, h, hp', asAddr, hl']

theorem results_mem2 {fn : Func} {p t u : Tmp} {ty : TypeId} (h : fn.results = #[.cell p ty, .tmp t, .tmp u]) (tmps : Array Value) (w : World) (b off : Nat) (vs : List Value) (hp : tmps.getD p undef = .pointer (some ⟨b, off, none⟩)) (hr : Reads w b off vs)
    {d : TypeDesc} (hu : P.underlying ty = some d) (hd : isAggD d = true) (hi : (P.info? ty).map (·.size) = some vs.length) : (results fn tmps).run P w = .ok (.tuple #[.agg vs.toArray, tmps.getD t undef, tmps.getD u undef]) w := by
  have hl := run_loadAt_agg (P := P) hu hd hi hr
  simp only [Instr.loadAt, Instr.sureAddr] at hl
  have hp' : tmps[p]?.getD undef = .pointer (some ⟨b, off, none⟩) := by simpa using hp
  have hl' : (loadVar ty ⟨b, off, none⟩).run P w = .ok (.agg vs.toArray) w := hl
  simp [results, h, hp', asAddr, hl']

end
end Go.Mm
