/- Regions that draw their order: if each two operations of which one turns memory (and the other reads what it may turn) are in order by the region's own edges, then one walk in the order of the text serves every order. Kinds: 0 quiet (one value in every world of a class C), 1 read (a value in the world that it got), 2 loud (whatever it does leaves a world of C), 3 loud, but it turns no memory that was there, 4 a read of which new memory makes no difference. Program-free. -/
import Derived.Still
import Derived.Orders
import Derived.WalkKit
import Derived.Test.YtppnaeedangndaaMem
namespace Go.Rg
open Go.Mm

section
variable {P : Program} {ops : Array Oper} {C : World → Prop} {kd : Nat → Nat}

/-- In which worlds a read of this kind is asked for. -/
def St (n : Nat) (w w' : World) : Prop := if n = 4 then Fr (fun _ => False) w w' else w' = w

theorem St.refl (n : Nat) (w : World) : St n w w := by unfold St; split <;> first | exact Fr.refl _ _ | rfl

@[go_sem ↓] theorem all_St (n : Nat) (w : World) (p : World → Prop) (hn : n ≠ 4) : (∀ w', St n w w' → p w') ↔ p w := by
  have e : ∀ w', St n w w' = (w' = w) := fun w' => by unfold St; rw [if_neg hn]
  exact ⟨fun h => h w (by rw [e]), fun h w' hw => by rw [e] at hw; exact hw ▸ h⟩

def nope : Exit → Act → World → Prop := fun _ _ _ => False

theorem nope_lets : ¬ LetsOut nope := fun ⟨_, _, h⟩ => h

/-- Operation i comes up. -/
def tOp (P : Program) (ops : Array Oper) (C : World → Prop) (kd : Nat → Nat) (i : Nat) (K : Act → World → Prop) (a : Act) (w : World) : Prop :=
  match ops[i]? with
  | none => K a w
  | some o =>
    if Region.wanted o (yielded ops a.tmps) then
      (if kd i = 0 then ∃ v, (∀ w', C w' → (execOp a.eval o).run P w' = .ok (.value v) w') ∧ K (a.put o.dst v) w
       else if kd i = 1 ∨ kd i = 4 then ∃ v, (∀ w', St (kd i) w w' → (execOp a.eval o).run P w' = .ok (.value v) w') ∧ K (a.put o.dst v) w
       else o.wp P a w (fun a' w' => (kd i = 3 → Fr (fun _ => False) w w') ∧ C w' ∧ K a' w') nope)
    else K (a.put o.dst undef) w

/-- In state a, whatever the world of C, o leaves v and the world as it is. -/
def YieldsC (P : Program) (ops : Array Oper) (C : World → Prop) (o : Oper) (v : Value) (a : Act) : Prop :=
  (Region.wanted o (yielded ops a.tmps) = true ∧ ∀ w, C w → (execOp a.eval o).run P w = .ok (.value v) w) ∨ (Region.wanted o (yielded ops a.tmps) = false ∧ v = undef)

/-- Two states that are one to an operation. -/
def SameTo (ops : Array Oper) (o : Oper) (a a' : Act) : Prop :=
  execOp a'.eval o = execOp a.eval o ∧ Region.wanted o (yielded ops a'.tmps) = Region.wanted o (yielded ops a.tmps)

theorem YieldsC.same {o : Oper} {v : Value} {a a' : Act} (h : YieldsC P ops C o v a) (s : SameTo ops o a a') : YieldsC P ops C o v a' := by
  unfold YieldsC at *
  rw [s.1, s.2]
  exact h

theorem SameTo.symm {o : Oper} {a a' : Act} (s : SameTo ops o a a') : SameTo ops o a' a := ⟨s.1.symm, s.2.symm⟩

theorem wp_monoC {o : Oper} {a : Act} {w : World} {K K' : Act → World → Prop} {Q : Exit → Act → World → Prop} (h : ∀ a w, K a w → K' a w) (hh : o.wp P a w K Q) : o.wp P a w K' Q :=
  Oper.wp_mono h hh

theorem tOp_mono {i : Nat} {a : Act} {w : World} {K K' : Act → World → Prop} (hw : C w) (h : ∀ a w, C w → K a w → K' a w) (hh : tOp P ops C kd i K a w) : tOp P ops C kd i K' a w := by
  unfold tOp at *
  split
  · rename_i ho; simp only [ho] at hh; exact h _ _ hw hh
  · rename_i o ho
    simp only [ho] at hh
    split
    · rename_i hwd
      simp only [hwd, if_true] at hh
      split
      · rename_i h0; simp only [h0, if_true] at hh; obtain ⟨v, h1, h2⟩ := hh; exact ⟨v, h1, h _ _ hw h2⟩
      · rename_i h0
        simp only [h0, if_false] at hh
        split
        · rename_i h1; simp only [h1, if_true] at hh; obtain ⟨v, h1, h2⟩ := hh; exact ⟨v, h1, h _ _ hw h2⟩
        · rename_i h1; simp only [h1, if_false] at hh; exact wp_monoC (fun a w ⟨e, p, q⟩ => ⟨e, p, h _ _ p q⟩) hh
    · rename_i hwd; simp only [hwd] at hh; exact h _ _ hw hh

theorem YieldsC.tOp {i : Nat} {o : Oper} {v : Value} {a : Act} {w : World} {K : Act → World → Prop} (hi : ops[i]? = some o) (hn : kd i = 0 ∨ Region.wanted o (yielded ops a.tmps) = false) (hy : YieldsC P ops C o v a)
    (h : K (a.put o.dst v) w) : tOp P ops C kd i K a w := by
  unfold Rg.tOp
  simp only [hi]
  rcases hy with ⟨hwd, hv⟩ | ⟨hwd, rfl⟩
  · have h0 : kd i = 0 := hn.resolve_right (by rw [hwd]; simp)
    simp only [hwd, if_true, h0]
    exact ⟨v, hv, h⟩
  · simp only [hwd, Bool.false_eq_true, if_false]; exact h

theorem yieldsC_of_tOp {i : Nat} {o : Oper} {a : Act} {w : World} {K : Act → World → Prop} (hi : ops[i]? = some o) (h0 : kd i = 0) (h : tOp P ops C kd i K a w) : ∃ v, YieldsC P ops C o v a ∧ K (a.put o.dst v) w := by
  unfold tOp at h
  simp only [hi, h0, if_true] at h
  by_cases hwd : Region.wanted o (yielded ops a.tmps) = true
  · simp only [hwd, if_true] at h
    obtain ⟨v, h1, h2⟩ := h
    exact ⟨v, .inl ⟨hwd, h1⟩, h2⟩
  · simp only [hwd] at h
    exact ⟨undef, .inr ⟨by simpa using hwd, rfl⟩, h⟩

/-- A loud operation has an outcome. -/
theorem wp_some {o : Oper} {a : Act} {w : World} {K : Act → World → Prop} (h : o.wp P a w K nope) : ∃ a' w', K a' w' := by
  unfold Oper.wp at h
  generalize (execOp a.eval o).run P w = r at h
  cases r with
  | ok n w' =>
    cases n with
    | value v => exact ⟨_, _, h⟩
    | skip => exact ⟨_, _, h⟩
    | defer d => exact ⟨_, _, h⟩
    | enter f args =>
      obtain ⟨e, w'', fr, hR, _⟩ := h []
      cases e with
      | returned v => exact ⟨_, _, hR⟩
      | panicked ch => exact hR.elim
      | outgrown => exact (nope_lets hR).elim
    | row r args =>
      obtain ⟨v, w'', hR, _⟩ := h default []
      exact ⟨_, _, hR⟩
    | _ => exact h.elim
  | halt x w' => cases x <;> exact h.elim

/-- What an operation looks at and writes lies apart from slot d: it may be written first, or last. -/
theorem wp_put {o : Oper} {a : Act} {w : World} {K : Act → World → Prop} (hs : ∀ cs b, o.op ≠ .select cs b) (d : Option Tmp) (v : Value) (h1 : ∀ t, d = some t → t ∉ o.looksAt ops) (h2 : ∀ t, d = some t → o.dst ≠ some t)
    (h : o.wp P (a.put d v) w K nope) : o.wp P a w (fun a' w' => K (a'.put d v) w') nope := by
  unfold Oper.wp at *
  rw [execOp_put (ops := ops) o hs a d v h1] at h
  generalize (execOp a.eval o).run P w = r at h ⊢
  cases r with
  | ok n w' =>
    cases n with
    | value u => simp only [Oper.upon] at h ⊢; rw [← Act.put_comm a v u h2]; exact h
    | skip => simp only [Oper.upon] at h ⊢; rw [← Act.put_comm a v _ h2]; exact h
    | defer df =>
      simp only [Oper.upon] at h ⊢
      have e : ({ a with defers := df :: a.defers } : Act).put d v = { a.put d v with defers := df :: (a.put d v).defers } := by cases d <;> rfl
      rw [← Act.put_comm _ v _ h2, e]; exact h
    | enter f args =>
      simp only [Oper.upon] at h ⊢
      refine h.mono fun e w'' he => ?_
      cases e with
      | returned u => simp only at he ⊢; rw [← Act.put_comm a v u h2]; exact he
      | panicked ch => exact he
      | outgrown => exact he
    | row r args =>
      simp only [Oper.upon] at h ⊢
      exact h.mono fun u w'' he => by rw [← Act.put_comm a v u h2]; exact he
    | _ => exact h
  | halt x w' => cases x <;> exact h

theorem wp_unput {o : Oper} {a : Act} {w : World} {K : Act → World → Prop} (hs : ∀ cs b, o.op ≠ .select cs b) (d : Option Tmp) (v : Value) (h1 : ∀ t, d = some t → t ∉ o.looksAt ops) (h2 : ∀ t, d = some t → o.dst ≠ some t)
    (h : o.wp P a w K nope) : o.wp P (a.put d v) w (fun a' w' => ∃ b, a' = b.put d v ∧ K b w') nope := by
  unfold Oper.wp at *
  rw [execOp_put (ops := ops) o hs a d v h1]
  generalize (execOp a.eval o).run P w = r at h ⊢
  cases r with
  | ok n w' =>
    cases n with
    | value u => simp only [Oper.upon] at h ⊢; exact ⟨_, Act.put_comm a v u h2, h⟩
    | skip => simp only [Oper.upon] at h ⊢; exact ⟨_, Act.put_comm a v _ h2, h⟩
    | defer df =>
      simp only [Oper.upon] at h ⊢
      have e : ({ a with defers := df :: a.defers } : Act).put d v = { a.put d v with defers := df :: (a.put d v).defers } := by cases d <;> rfl
      refine ⟨_, ?_, h⟩
      rw [← e]
      exact Act.put_comm _ v _ h2
    | enter f args =>
      simp only [Oper.upon] at h ⊢
      refine h.mono fun e w'' he => ?_
      cases e with
      | returned u => exact ⟨_, Act.put_comm a v u h2, he⟩
      | panicked ch => exact he
      | outgrown => exact he
    | row r args =>
      simp only [Oper.upon] at h ⊢
      exact h.mono fun u w'' he => ⟨_, Act.put_comm a v u h2, he⟩
    | _ => exact h
  | halt x w' => cases x <;> exact h

/-- What is the same to another operation behind this one. -/
theorem wp_same {o x : Oper} {a : Act} {w : World} {K : Act → World → Prop} (hsx : ∀ cs b, x.op ≠ .select cs b) (h1 : ∀ t, o.dst = some t → t ∉ x.looksAt ops)
    (h : o.wp P a w K nope) : o.wp P a w (fun a' w' => SameTo ops x a a' ∧ K a' w') nope := by
  have key : ∀ u, SameTo ops x a (a.put o.dst u) := fun u => ⟨execOp_put x hsx a o.dst u h1, wanted_put x a o.dst u h1⟩
  unfold Oper.wp at *
  generalize (execOp a.eval o).run P w = r at h ⊢
  cases r with
  | ok n w' =>
    cases n with
    | value u => exact ⟨key u, h⟩
    | skip => exact ⟨key _, h⟩
    | defer df =>
      refine ⟨?_, h⟩
      have e : ∀ u, (({ a with defers := df :: a.defers } : Act).put o.dst u).tmps = (a.put o.dst u).tmps := fun u => by cases o.dst <;> rfl
      have ee : ∀ b b' : Act, b.tmps = b'.tmps → b.eval = b'.eval := fun b b' hb => by funext y; cases y <;> simp [Act.eval, hb]
      refine ⟨?_, ?_⟩
      · rw [ee _ _ (e undef)]; exact (key undef).1
      · rw [e undef]; exact (key undef).2
    | enter f args =>
      simp only [Oper.upon] at h ⊢
      refine h.mono fun e w'' he => ?_
      cases e with
      | returned u => exact ⟨key u, he⟩
      | panicked ch => exact he
      | outgrown => exact he
    | row r args =>
      simp only [Oper.upon] at h ⊢
      exact h.mono fun u w'' he => ⟨key u, he⟩
    | _ => exact h
  | halt x w' => cases x <;> exact h

theorem tOp_some {i : Nat} {a : Act} {w : World} {K : Act → World → Prop} (h : tOp P ops C kd i K a w) : ∃ a' w', K a' w' := by
  unfold tOp at h
  split at h
  · exact ⟨_, _, h⟩
  · split at h
    · split at h
      · obtain ⟨v, _, h⟩ := h; exact ⟨_, _, h⟩
      · split at h
        · obtain ⟨v, _, h⟩ := h; exact ⟨_, _, h⟩
        · obtain ⟨a', w', _, _, h⟩ := wp_some h; exact ⟨a', w', h⟩
    · exact ⟨_, _, h⟩

/-- What a kind says of the world behind it. -/
def After (n : Nat) (w w' : World) : Prop := n = 2 ∨ Fr (fun _ => False) w w'

/-- An operation that is apart from slot d (written with v by one that is taken ahead of it) may be taken first. -/
theorem tOp_put {j : Nat} {oj x : Oper} {a : Act} {w : World} {K : Act → World → Prop} (hj : ops[j]? = some oj) (hsj : ∀ cs b, oj.op ≠ .select cs b) (hsx : ∀ cs b, x.op ≠ .select cs b) (v : Value) (h4 : kd j ≤ 4)
    (h1 : ∀ t, x.dst = some t → t ∉ oj.looksAt ops) (h2 : ∀ t, x.dst = some t → oj.dst ≠ some t) (h3 : ∀ t, oj.dst = some t → t ∉ x.looksAt ops)
    (h : tOp P ops C kd j K (a.put x.dst v) w) : tOp P ops C kd j (fun a' w' => After (kd j) w w' ∧ (kd j < 2 ∨ kd j = 4 → w' = w) ∧ SameTo ops x a a' ∧ K (a'.put x.dst v) w') a w := by
  have key : ∀ u, SameTo ops x a (a.put oj.dst u) := fun u => ⟨execOp_put x hsx a oj.dst u h3, wanted_put x a oj.dst u h3⟩
  unfold tOp at *
  simp only [hj] at h ⊢
  rw [wanted_put oj a x.dst v h1, execOp_put (ops := ops) oj hsj a x.dst v h1] at h
  split
  · rename_i hwd
    simp only [hwd, if_true] at h
    split
    · rename_i h0
      simp only [h0, if_true] at h
      obtain ⟨u, hu, hk⟩ := h
      exact ⟨u, hu, .inr (Fr.refl _ _), by simp, key u, by rw [← Act.put_comm a v u h2]; exact hk⟩
    · rename_i h0
      simp only [h0, if_false] at h
      split
      · rename_i h01
        simp only [h01, if_true] at h
        obtain ⟨u, hu, hk⟩ := h
        exact ⟨u, hu, .inr (Fr.refl _ _), by simp, key u, by rw [← Act.put_comm a v u h2]; exact hk⟩
      · rename_i h01
        simp only [h01, if_false] at h
        have h' := wp_same (ops := ops) hsx h3 (wp_put hsj x.dst v h1 h2 h)
        refine wp_monoC (fun a w ⟨p, e, q, r⟩ => ⟨e, q, ?_, fun hh => ?_, p, r⟩) h'
        · by_cases h2' : kd j = 2
          · exact .inl h2'
          · exact .inr (e (by omega))
        · omega
  · rename_i hwd
    simp only [hwd] at h
    exact ⟨.inr (Fr.refl _ _), by simp, key _, by rw [← Act.put_comm a v _ h2]; exact h⟩

/-- May operations of these kinds change places? (k stands first in the text.) -/
def swaps (k j : Nat) : Bool := decide (k ≤ 4) && decide (j ≤ 4) && (k == 0 || j == 0 || ((k == 1 || k == 4) && (j == 1 || j == 4)) || (k == 4 && j == 3))

theorem tOp_swap {k j : Nat} {ok oj : Oper} {a : Act} {w : World} {K : Act → World → Prop} (hw : C w) (hk : ops[k]? = some ok) (hj : ops[j]? = some oj) (hsk : ∀ cs b, ok.op ≠ .select cs b) (hsj : ∀ cs b, oj.op ≠ .select cs b)
    (hap : ok.apart ops oj = true) (hc : swaps (kd k) (kd j) = true) (h : tOp P ops C kd k (tOp P ops C kd j K) a w) : tOp P ops C kd j (tOp P ops C kd k K) a w := by
  obtain ⟨h1, h2, h3⟩ := Oper.apart_spec hap
  have h2' : ∀ t, oj.dst = some t → ok.dst ≠ some t := fun t ht e => h2 t e ht
  simp only [swaps, Bool.and_eq_true, Bool.or_eq_true, beq_iff_eq, decide_eq_true_eq] at hc
  by_cases hwd : Region.wanted ok (yielded ops a.tmps) = true ∧ kd k ≠ 0
  · obtain ⟨hwd, hk0⟩ := hwd
    by_cases hk1 : kd k = 1 ∨ kd k = 4
    · -- a read
      unfold tOp at h
      simp only [hk, hwd, if_true] at h
      rw [if_neg hk0, if_pos hk1] at h
      obtain ⟨v, hv, h⟩ := h
      replace h : tOp P ops C kd j K (a.put ok.dst v) w := h
      refine tOp_mono hw ?_ (tOp_put hj hsj hsk v (by omega) h1 h2 h3 h)
      rintro a' w' hw' ⟨haf, hsame, hs, hK⟩
      unfold tOp
      simp only [hk]
      rw [hs.2, hs.1]
      simp only [hwd, if_true]
      rw [if_neg hk0, if_pos hk1]
      refine ⟨v, fun w'' hst => ?_, hK⟩
      by_cases hj2 : kd j < 2 ∨ kd j = 4
      · rw [hsame hj2] at hst
        exact hv w'' hst
      · have hk4 : kd k = 4 ∧ kd j = 3 := by omega
        refine hv w'' ?_
        unfold St at hst ⊢
        rw [if_pos hk4.1] at hst ⊢
        exact (haf.resolve_left (by omega)).trans hst
    · -- loud: j is quiet
      have hj0 : kd j = 0 := by omega
      unfold tOp at h
      simp only [hk, hwd, if_true] at h
      rw [if_neg hk0, if_neg hk1] at h
      have h' := wp_same (ops := ops) hsj h1 h
      obtain ⟨a1, w1, hs1, hE1, hC1, ht1⟩ := wp_some h'
      have ht1' : tOp P ops C kd j K a1 w1 := ht1
      obtain ⟨u, hu, _⟩ := yieldsC_of_tOp hj hj0 ht1'
      have hua := hu.same hs1.symm
      refine YieldsC.tOp hj (.inl hj0) hua ?_
      unfold tOp
      simp only [hk, wanted_put ok a oj.dst u h3, hwd, if_true]
      rw [if_neg hk0, if_neg hk1]
      refine wp_monoC ?_ (wp_unput hsk oj.dst u h3 h2' h')
      rintro a2 w2 ⟨b, rfl, hsb, hEb, hCb, htb⟩
      have htb' : tOp P ops C kd j K b w2 := htb
      obtain ⟨u', hu', hK'⟩ := yieldsC_of_tOp hj hj0 htb'
      have hub := hua.same hsb
      have : u' = u := by
        rcases hu' with ⟨q1, q2⟩ | ⟨q1, rfl⟩
        · rcases hub with ⟨_, r2⟩ | ⟨r1, _⟩
          · have := (q2 w2 hCb).symm.trans (r2 w2 hCb)
            simpa using this
          · rw [q1] at r1; cases r1
        · rcases hub with ⟨r1, _⟩ | ⟨_, rfl⟩
          · rw [q1] at r1; cases r1
          · rfl
      subst this
      exact ⟨hEb, hCb, hK'⟩
  · -- quiet, or not wanted
    have hq : ∃ v, (kd k = 0 ∨ Region.wanted ok (yielded ops a.tmps) = false) ∧ YieldsC P ops C ok v a ∧ tOp P ops C kd j K (a.put ok.dst v) w := by
      by_cases hk0 : kd k = 0
      · obtain ⟨v, hv⟩ := yieldsC_of_tOp hk hk0 h
        exact ⟨v, .inl hk0, hv⟩
      · have hn : Region.wanted ok (yielded ops a.tmps) = false := by
          cases hb : Region.wanted ok (yielded ops a.tmps) with
          | false => rfl
          | true => exact absurd ⟨hb, hk0⟩ hwd
        unfold tOp at h
        simp only [hk, hn, Bool.false_eq_true, if_false] at h
        exact ⟨undef, .inr hn, .inr ⟨hn, rfl⟩, h⟩
    obtain ⟨v, hn, hy, h⟩ := hq
    exact tOp_mono hw (fun a' w' hw' ⟨_, _, hs, hK⟩ => YieldsC.tOp hk (hn.imp id (fun e => hs.2.trans e)) (hy.same hs) hK) (tOp_put hj hsj hsk v (by omega) h1 h2 h3 h)

/-- Whatever order is picked from here on. -/
def wpAnyT (P : Program) (ops : Array Oper) (C : World → Prop) (kd : Nat → Nat) (Q : Act → World → Prop) : Nat → Array Bool → Act → World → Prop
  | 0, listed, a, w => Region.ready .any ops listed = [] ∧ Q a w
  | fuel + 1, listed, a, w => (Region.ready .any ops listed = [] → Q a w) ∧ ∀ i ∈ Region.ready .any ops listed, tOp P ops C kd i (wpAnyT P ops C kd Q fuel (listed.setIfInBounds i true)) a w

theorem wpOp_of_tOp {i : Nat} {a : Act} {w : World} {K K' : Act → World → Prop} {Q : Exit → Act → World → Prop} (hw : C w) (h : ∀ a w, C w → K a w → K' a w) (hh : tOp P ops C kd i K a w) : wpOp P ops Q i K' a w := by
  unfold tOp at hh
  unfold wpOp
  split
  · rename_i ho; simp only [ho] at hh; exact h _ _ hw hh
  · rename_i o ho
    simp only [ho] at hh
    split
    · rename_i hwd
      simp only [hwd, if_true] at hh
      refine .inl ?_
      split at hh
      · obtain ⟨v, hv, hk⟩ := hh; unfold Oper.wp; rw [hv w hw]; exact h _ _ hw hk
      · split at hh
        · obtain ⟨v, hv, hk⟩ := hh; unfold Oper.wp; rw [hv w (St.refl _ _)]; exact h _ _ hw hk
        · have h2 := wp_monoC (K' := K') (fun a w ⟨_, p, q⟩ => h a w p q) hh
          clear hh
          unfold Oper.wp at *
          generalize (execOp a.eval o).run P w = r at h2 ⊢
          cases r with
          | ok n w' =>
            cases n with
            | enter f args =>
              simp only [Oper.upon] at h2 ⊢
              refine h2.mono fun e w'' he => ?_
              cases e with
              | returned u => exact he
              | panicked ch => exact he.elim
              | outgrown => exact (nope_lets he).elim
            | _ => exact h2
          | halt x w' => cases x <;> first | exact h2 | exact h2.elim
    · rename_i hwd; simp only [hwd] at hh; exact h _ _ hw hh

theorem wpAny_of_T {Q : Act → World → Prop} {Q' : Exit → Act → World → Prop} (hQ : ∀ a w, C w → Q a w → Q' .normal a w) : ∀ (fuel : Nat) (listed : Array Bool) (a : Act) (w : World), C w →
    wpAnyT P ops C kd Q fuel listed a w → wpAny P .any ops Q' fuel listed a w
  | 0, _, _, _, hw, h => ⟨h.1, hQ _ _ hw h.2⟩
  | fuel + 1, _, _, _, hw, h => ⟨fun h0 => hQ _ _ hw (h.1 h0), fun i hi => wpOp_of_tOp hw (fun a' w' hw' => wpAny_of_T hQ fuel _ a' w' hw') (h.2 i hi)⟩

/-- A list of masks: what each operation waits for, near or far; held row by row. -/
def masksOk (ops : Array Oper) (m : List Nat) : Bool :=
  (List.range ops.size).all fun j => (List.range ops.size).all fun k =>
    !(m.getD j 0).testBit k || ((ops[j]?).map (·.after.any fun e => Region.binds .any e && (e.on == k || (m.getD e.on 0).testBit k))).getD false

/-- The masks, reckoned. -/
def masks (ops : Array Oper) : List Nat :=
  (ops.toList.foldl (init := ([] : List Nat)) fun acc o => acc ++ [o.after.toList.foldl (fun s e => if Region.binds .any e then s ||| 2 ^ e.on ||| acc.getD e.on 0 else s) 0])

/-- The listing is closed: what an operation waits for is listed when it is. -/
def Closed (ops : Array Oper) (listed : Array Bool) : Prop :=
  ∀ (j : Nat) (oj : Oper), ops[j]? = some oj → listed.getD j false = true → ∀ e ∈ oj.after, Region.binds .any e = true → listed.getD e.on false = true

theorem waits_unlisted {m : List Nat} (hm : masksOk ops m = true) {listed : Array Bool} (hcl : Closed ops listed) {k : Nat} (hk : listed.getD k false = false) (n : Nat) :
    ∀ j, j ≤ n → j < ops.size → (∀ i oi, ops[i]? = some oi → ∀ e ∈ oi.after, Region.binds .any e = true → e.on < i) → k < ops.size → (m.getD j 0).testBit k = true → listed.getD j false = false ∧ j ∉ Region.ready .any ops listed := by
  induction n with
  | zero =>
    intro j hj hjs hord hks hb
    obtain rfl : j = 0 := by omega
    have h := hm
    simp only [masksOk, List.all_eq_true, List.mem_range] at h
    have h1 := h 0 hjs k hks
    simp only [hb, Bool.not_true, Bool.false_or] at h1
    obtain ⟨oj, hoj⟩ : ∃ oj, ops[0]? = some oj := ⟨ops[0], by simp [hjs]⟩
    simp only [hoj, Option.map_some, Option.getD_some, Array.any_eq_true'] at h1
    obtain ⟨e, he, hb1⟩ := h1
    simp only [Bool.and_eq_true] at hb1
    have := hord 0 oj hoj e he hb1.1
    omega
  | succ n ih =>
    intro j hj hjs hord hks hb
    have h := hm
    simp only [masksOk, List.all_eq_true, List.mem_range] at h
    have h1 := h j hjs k hks
    simp only [hb, Bool.not_true, Bool.false_or] at h1
    obtain ⟨oj, hoj⟩ : ∃ oj, ops[j]? = some oj := ⟨ops[j], by simp [hjs]⟩
    simp only [hoj, Option.map_some, Option.getD_some, Array.any_eq_true'] at h1
    obtain ⟨e, he, hb1⟩ := h1
    simp only [Bool.and_eq_true, Bool.or_eq_true, beq_iff_eq] at hb1
    have hlt := hord j oj hoj e he hb1.1
    have hun : listed.getD e.on false = false := by
      rcases hb1.2 with rfl | hb2
      · exact hk
      · exact (ih e.on (by omega) (by omega) hord hks hb2).1
    refine ⟨?_, fun hr => ?_⟩
    · cases hc : listed.getD j false with
      | false => rfl
      | true => have := hcl j oj hoj hc e he hb1.1; rw [hun] at this; cases this
    · obtain ⟨_, oj', hoj', hall⟩ := mem_ready.1 hr
      rw [hoj] at hoj'
      cases hoj'
      have := hall e he hb1.1
      rw [hun] at this
      cases this

/-- The region fits: each operation waits for earlier ones alone; each two are in order, or may change places. -/
def fits (ops : Array Oper) (kd : Nat → Nat) (m : List Nat) : Bool :=
  Region.noSelect ops && masksOk ops m &&
  ((List.range ops.size).all fun i => ((ops[i]?).map (·.after.all fun e => !Region.binds .any e || e.on < i)).getD true) &&
  ((List.range ops.size).all fun j => (List.range j).all fun k => (m.getD j 0).testBit k ||
    (match ops[k]?, ops[j]? with | some ok, some oj => ok.apart ops oj && swaps (kd k) (kd j) | _, _ => true))

theorem wpAnyT_first {Q : Act → World → Prop} {m : List Nat} (hf : fits ops kd m = true) {k : Nat} {ok : Oper} (hk : ops[k]? = some ok) : ∀ (fuel : Nat) (listed : Array Bool) (a : Act) (w : World), C w → Closed ops listed →
    (∀ i, i < k → listed.getD i false = true) → k ∈ Region.ready .any ops listed → tOp P ops C kd k (wpAnyT P ops C kd Q fuel (listed.setIfInBounds k true)) a w → wpAnyT P ops C kd Q (fuel + 1) listed a w := by
  simp only [fits, Bool.and_eq_true, List.all_eq_true, List.mem_range] at hf
  obtain ⟨⟨⟨hsel, hm⟩, hord⟩, hpair⟩ := hf
  have hord' : ∀ i oi, ops[i]? = some oi → ∀ e ∈ oi.after, Region.binds .any e = true → e.on < i := by
    intro i oi hi e he hb
    have h := hord i (Array.getElem?_eq_some_iff.1 hi).1
    simp only [hi, Option.map_some, Option.getD_some, Array.all_eq_true_iff_forall_mem] at h
    have := h e he
    simpa [hb] using this
  have hks : k < ops.size := (Array.getElem?_eq_some_iff.1 hk).1
  have hselk := Region.noSelect_spec hsel
  intro fuel
  induction fuel with
  | zero =>
    intro listed a w hw hcl hlow hr H
    refine ⟨fun h => (by rw [h] at hr; cases hr), fun j hj => ?_⟩
    by_cases hjk : j = k
    · subst hjk; exact H
    · obtain ⟨a', w', hK⟩ := tOp_some H
      have := ready_mono hj hjk
      rw [hK.1] at this
      cases this
  | succ fuel ih =>
    intro listed a w hw hcl hlow hr H
    refine ⟨fun h => (by rw [h] at hr; cases hr), fun j hj => ?_⟩
    by_cases hjk : j = k
    · subst hjk; exact H
    · obtain ⟨hjun, oj, hoj, hall⟩ := mem_ready.1 hj
      have hjs : j < ops.size := (Array.getElem?_eq_some_iff.1 hoj).1
      have hkun : listed.getD k false = false := by
        have h0 := (mem_ready.1 hr).1
        rcases Nat.lt_or_ge k listed.size with h' | h'
        · simp [h'] at h0 ⊢; exact h0
        · simp [Array.getElem?_eq_none h']
      have hkj : k < j := by
        rcases Nat.lt_trichotomy k j with h' | h' | h'
        · exact h'
        · exact absurd h'.symm hjk
        · have := hlow j h'
          rcases Nat.lt_or_ge j listed.size with h'' | h''
          · simp [h''] at this hjun; rw [hjun] at this; cases this
          · simp [Array.getElem?_eq_none h''] at this
      have hp := hpair j hjs k hkj
      have hnot : (m.getD j 0).testBit k = false := by
        cases hb : (m.getD j 0).testBit k with
        | false => rfl
        | true => exact absurd hj (waits_unlisted hm hcl hkun j j (Nat.le_refl _) hjs hord' hks hb).2
      simp only [hnot, Bool.false_or, hk, hoj, Bool.and_eq_true] at hp
      have h1 : tOp P ops C kd k (tOp P ops C kd j (wpAnyT P ops C kd Q fuel ((listed.setIfInBounds k true).setIfInBounds j true))) a w :=
        tOp_mono hw (fun a' w' _ hK => hK.2 j (ready_mono hj hjk)) H
      have h2 := tOp_swap hw hk hoj (fun cs b => hselk k ok cs b hk) (fun cs b => hselk j oj cs b hoj) hp.1 hp.2 h1
      have hcl' : Closed ops (listed.setIfInBounds j true) := by
        intro i oi hi hli e he hb
        by_cases hij : j = i
        · subst hij
          rw [hoj] at hi
          cases hi
          exact getD_set_true (hall e he hb)
        · rw [getD_set_ne false hij] at hli
          exact getD_set_true (hcl i oi hi hli e he hb)
      refine tOp_mono hw (fun a' w' hw' h3 => ih (listed.setIfInBounds j true) a' w' hw' hcl' (fun i hi => getD_set_true (hlow i hi)) (ready_mono hr (Ne.symm hjk)) ?_) h2
      rw [Array.setIfInBounds_comm _ _ hjk]
      exact h3

/-- The walk in the order of the text: operation number k and what follows. -/
def wpT (P : Program) (ops : Array Oper) (C : World → Prop) (kd : Nat → Nat) (Q : Act → World → Prop) : Nat → List Oper → Act → World → Prop
  | _, [], a, w => Q a w
  | k, o :: rest, a, w =>
    if Region.wanted o (yielded ops a.tmps) then
      (if kd k = 0 then ∃ v, (∀ w', C w' → (execOp a.eval o).run P w' = .ok (.value v) w') ∧ wpT P ops C kd Q (k + 1) rest (a.put o.dst v) w
       else if kd k = 1 ∨ kd k = 4 then ∃ v, (∀ w', St (kd k) w w' → (execOp a.eval o).run P w' = .ok (.value v) w') ∧ wpT P ops C kd Q (k + 1) rest (a.put o.dst v) w
       else o.wp P a w (fun a' w' => (kd k = 3 → Fr (fun _ => False) w w') ∧ C w' ∧ wpT P ops C kd Q (k + 1) rest a' w') nope)
    else wpT P ops C kd Q (k + 1) rest (a.put o.dst undef) w

theorem wpAnyT_lex {Q : Act → World → Prop} {m : List Nat} (hf : fits ops kd m = true) : ∀ (l : List Oper) (k : Nat) (listed : Array Bool) (a : Act) (w : World), C w → listed.size = ops.size → k + l.length = ops.size →
    (∀ j, l[j]? = ops[k + j]?) → (∀ i, i < ops.size → listed.getD i false = decide (i < k)) → wpT P ops C kd Q k l a w → wpAnyT P ops C kd Q l.length listed a w
  | [], k, listed, a, w, _, hsz, hlen, _, hli, h => by
    refine ⟨?_, h⟩
    cases hr : Region.ready .any ops listed with
    | nil => rfl
    | cons i r =>
      have hi : i ∈ Region.ready .any ops listed := by rw [hr]; exact List.mem_cons_self
      obtain ⟨hun, oi, hoi, _⟩ := mem_ready.1 hi
      have his : i < ops.size := (Array.getElem?_eq_some_iff.1 hoi).1
      have := hli i his
      simp only [List.length_nil] at hlen
      simp [show i < listed.size by omega] at this hun
      rw [hun] at this
      simp at this
      omega
  | o :: l, k, listed, a, w, hw, hsz, hlen, hl, hli, h => by
    have h0 : ops[k]? = some o := by simpa using (hl 0).symm
    have hks : k < ops.size := (Array.getElem?_eq_some_iff.1 h0).1
    have hf' := hf
    simp only [fits, Bool.and_eq_true, List.all_eq_true, List.mem_range] at hf'
    obtain ⟨⟨⟨hsel, hm⟩, hord⟩, hpair⟩ := hf'
    have hord' : ∀ i oi, ops[i]? = some oi → ∀ e ∈ oi.after, Region.binds .any e = true → e.on < i := by
      intro i oi hi e he hb
      have h := hord i (Array.getElem?_eq_some_iff.1 hi).1
      simp only [hi, Option.map_some, Option.getD_some, Array.all_eq_true_iff_forall_mem] at h
      have := h e he
      simpa [hb] using this
    have hready : k ∈ Region.ready .any ops listed := by
      refine mem_ready.2 ⟨?_, o, h0, fun e he hb => ?_⟩
      · have := hli k hks
        simp [show k < listed.size by omega] at this ⊢
        exact this
      · have hlt := hord' k o h0 e he hb
        rw [hli e.on (by omega)]
        simpa using hlt
    have hcl : Closed ops listed := by
      intro j oj hj hlj e he hb
      have hjs : j < ops.size := (Array.getElem?_eq_some_iff.1 hj).1
      rw [hli j hjs] at hlj
      have hlt := hord' j oj hj e he hb
      have : j < k := by simpa using hlj
      rw [hli e.on (by omega)]
      simp
      omega
    refine wpAnyT_first hf h0 l.length listed a w hw hcl (fun i hi => by rw [hli i (by omega)]; simpa using hi) hready ?_
    have rec_ : ∀ a' w', C w' → wpT P ops C kd Q (k + 1) l a' w' → wpAnyT P ops C kd Q l.length (listed.setIfInBounds k true) a' w' := fun a' w' hw' h' =>
      wpAnyT_lex hf l (k + 1) _ a' w' hw' (by simpa using hsz) (by simp only [List.length_cons] at hlen; omega) (fun j => by have := hl (j + 1); simpa [Nat.add_assoc, Nat.add_comm 1 j] using this)
        (fun i hi => by
          by_cases hik : k = i
          · subst hik
            simp [show k < listed.size by omega]
          · rw [getD_set_ne false hik, hli i hi]
            congr 1
            simp
            omega) h'
    refine tOp_mono hw rec_ ?_
    unfold tOp
    simp only [h0]
    exact h

/-- ONE WALK IN THE ORDER OF THE TEXT SERVES EVERY ORDER. -/
theorem wp_region_T {id : Nat} {Q : Exit → Act → World → Prop} {a : Act} {w : World} {l : List Oper} (hm : P.follows .mixedOrders = true) (C : World → Prop) (kd : Nat → Nat) (hf : fits l.toArray kd (masks l.toArray) = true)
    (hC : C w.drew) (h : wpT P l.toArray C kd (Q .normal) 0 l a w.drew) : (Code.region id l.toArray true).wp P Q a w := by
  refine wp_region_any hm ?_
  have h1 := wpAnyT_lex hf l 0 (Array.replicate l.toArray.size false) a w.drew hC (by simp) (by simp) (by simp) (fun i _ => by simp [Array.getElem?_replicate]; split <;> rfl) h
  have h2 := wpAny_of_T (Q' := Q) (fun _ _ _ h => h) l.length _ a w.drew hC h1
  simpa using h2

theorem wpT_nil_eq (Q : Act → World → Prop) (k : Nat) (a : Act) (w : World) : wpT P ops C kd Q k [] a w = Q a w := rfl

theorem wpT_nil {Q : Act → World → Prop} {k : Nat} {a : Act} {w : World} (h : Q a w) : wpT P ops C kd Q k [] a w := h

theorem wpT_step {Q : Act → World → Prop} {k : Nat} {a : Act} {w : World} {o : Oper} {rest : List Oper}
    (h : ∀ K : Act → World → Prop, (∀ a w, wpT P ops C kd Q (k + 1) rest a w → K a w) →
      if Region.wanted o (yielded ops a.tmps) then
        (if kd k = 0 then ∃ v, (∀ w', C w' → (execOp a.eval o).run P w' = .ok (.value v) w') ∧ K (a.put o.dst v) w
         else if kd k = 1 ∨ kd k = 4 then ∃ v, (∀ w', St (kd k) w w' → (execOp a.eval o).run P w' = .ok (.value v) w') ∧ K (a.put o.dst v) w
         else o.wp P a w (fun a' w' => (kd k = 3 → Fr (fun _ => False) w w') ∧ C w' ∧ K a' w') nope)
      else K (a.put o.dst undef) w) : wpT P ops C kd Q k (o :: rest) a w :=
  h _ (fun _ _ h => h)
theorem wpT_cons (Q : Act → World → Prop) (k : Nat) (a : Act) (w : World) (o : Oper) (rest : List Oper) : wpT P ops C kd Q k (o :: rest) a w =
    if Region.wanted o (yielded ops a.tmps) then
      (if kd k = 0 then ∃ v, (∀ w', C w' → (execOp a.eval o).run P w' = .ok (.value v) w') ∧ wpT P ops C kd Q (k + 1) rest (a.put o.dst v) w
       else if kd k = 1 ∨ kd k = 4 then ∃ v, (∀ w', St (kd k) w w' → (execOp a.eval o).run P w' = .ok (.value v) w') ∧ wpT P ops C kd Q (k + 1) rest (a.put o.dst v) w
       else o.wp P a w (fun a' w' => (kd k = 3 → Fr (fun _ => False) w w') ∧ C w' ∧ wpT P ops C kd Q (k + 1) rest a' w') nope)
    else wpT P ops C kd Q (k + 1) rest (a.put o.dst undef) w := rfl
end
attribute [irreducible] wpT
end Go.Rg
