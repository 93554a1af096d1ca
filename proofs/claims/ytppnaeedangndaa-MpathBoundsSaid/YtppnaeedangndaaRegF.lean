/- Regions that draw their order, where two operations that turn memory stand in no order: at the head of the first the walk is asked for the other one first, too. Kinds 0, 2, 3 only. Program-free. -/
import Derived.Test.YtppnaeedangndaaReg
namespace Go.Rg
open Go.Mm
section
variable {P : Program} {ops : Array Oper} {C : World → Prop} {kd : Nat → Nat}

theorem YieldsC.unique {o : Oper} {v u : Value} {a : Act} {w : World} (hw : C w) (h : YieldsC P ops C o v a) (k : YieldsC P ops C o u a) : v = u := by
  rcases h with ⟨q1, q2⟩ | ⟨q1, rfl⟩
  · rcases k with ⟨_, r2⟩ | ⟨r1, _⟩
    · have := (q2 w hw).symm.trans (r2 w hw)
      simpa using this
    · rw [q1] at r1; cases r1
  · rcases k with ⟨r1, _⟩ | ⟨_, rfl⟩
    · rw [q1] at r1; cases r1
    · rfl

/-- f (behind k in the text) may be taken ahead of k, and it makes a difference. -/
def altX (ops : Array Oper) (kd : Nat → Nat) (m : List Nat) (k f : Nat) : Bool :=
  decide (k < f) && decide (f < ops.size) && !(m.getD f 0).testBit k && !(swaps (kd k) (kd f))

def fitsX (ops : Array Oper) (kd : Nat → Nat) (m : List Nat) : Bool :=
  Region.noSelect ops && masksOk ops m &&
  ((List.range ops.size).all fun i => ((ops[i]?).map (·.after.all fun e => !Region.binds .any e || e.on < i)).getD true) &&
  ((List.range ops.size).all fun i => kd i == 0 || kd i == 2 || kd i == 3) &&
  ((List.range ops.size).all fun j => (List.range ops.size).all fun k => k == j || (m.getD j 0).testBit k || (m.getD k 0).testBit j || (kd k != 0 && kd j != 0) ||
    (match ops[k]?, ops[j]? with | some ok, some oj => ok.apart ops oj | _, _ => true)) &&
  ((List.range ops.size).all fun f => (List.range ops.size).all fun k => !(altX ops kd m k f) || ((ops[f]?).map (·.after.all fun e => !Region.binds .any e || e.on < k)).getD true)

structure FitsX (ops : Array Oper) (kd : Nat → Nat) (m : List Nat) : Prop where
  sel : ∀ (k : Nat) (ok : Oper) cs b, ops[k]? = some ok → ok.op ≠ .select cs b
  mks : masksOk ops m = true
  ord : ∀ (i : Nat) (oi : Oper), ops[i]? = some oi → ∀ e ∈ oi.after, Region.binds .any e = true → e.on < i
  kinds : ∀ i, i < ops.size → kd i = 0 ∨ kd i = 2 ∨ kd i = 3
  apart : ∀ (j k : Nat) (ok oj : Oper), ops[k]? = some ok → ops[j]? = some oj → k ≠ j → (m.getD j 0).testBit k = false → (m.getD k 0).testBit j = false → kd k = 0 ∨ kd j = 0 → ok.apart ops oj = true
  alts : ∀ (k f : Nat) (of : Oper), ops[f]? = some of → k < ops.size → altX ops kd m k f = true → ∀ e ∈ of.after, Region.binds .any e = true → e.on < k

theorem FitsX.of {m : List Nat} (h : fitsX ops kd m = true) : FitsX ops kd m := by
  simp only [fitsX, Bool.and_eq_true, List.all_eq_true, List.mem_range] at h
  obtain ⟨⟨⟨⟨⟨hsel, hm⟩, hord⟩, hk⟩, hap⟩, halt⟩ := h
  refine ⟨fun k ok cs b hk => Region.noSelect_spec hsel k ok cs b hk, hm, ?_, ?_, ?_, ?_⟩
  · intro i oi hi e he hb
    have h := hord i (Array.getElem?_eq_some_iff.1 hi).1
    simp only [hi, Option.map_some, Option.getD_some, Array.all_eq_true_iff_forall_mem] at h
    have := h e he
    simpa [hb] using this
  · intro i hi
    have := hk i hi
    simp only [Bool.or_eq_true, beq_iff_eq] at this
    omega
  · intro j k ok oj hk hj hne h1 h2 h3
    have h := hap j (Array.getElem?_eq_some_iff.1 hj).1 k (Array.getElem?_eq_some_iff.1 hk).1
    simp only [h1, h2, hk, hj, Bool.or_eq_true, beq_iff_eq, Bool.and_eq_true, bne_iff_ne, ne_eq, Bool.false_eq_true, or_false] at h
    rcases h with (h | h) | h
    · exact absurd h hne
    · exact absurd h3 (by omega)
    · exact h
  · intro k f of hf hk ha e he hb
    have h := halt f (Array.getElem?_eq_some_iff.1 hf).1 k hk
    simp only [ha, hf, Option.map_some, Option.getD_some, Bool.not_true, Bool.false_or, Array.all_eq_true_iff_forall_mem] at h
    have := h e he
    simpa [hb] using this

theorem Closed.set {listed : Array Bool} {j : Nat} (hcl : Closed ops listed) (hj : j ∈ Region.ready .any ops listed) : Closed ops (listed.setIfInBounds j true) := by
  obtain ⟨hjun, oj, hoj, hall⟩ := mem_ready.1 hj
  intro i oi hi hli e he hb
  by_cases hij : j = i
  · subst hij
    rw [hoj] at hi
    cases hi
    exact getD_set_true (hall e he hb)
  · rw [getD_set_ne false hij] at hli
    exact getD_set_true (hcl i oi hi hli e he hb)

theorem unlisted_of_ready {listed : Array Bool} {k : Nat} (hr : k ∈ Region.ready .any ops listed) : listed.getD k false = false := by
  have h0 := (mem_ready.1 hr).1
  rcases Nat.lt_or_ge k listed.size with h' | h'
  · simp [h'] at h0 ⊢; exact h0
  · simp [Array.getElem?_eq_none h']

theorem swaps_quiet {k j : Nat} (hk : k = 0 ∨ k = 2 ∨ k = 3) (hj : j = 0 ∨ j = 2 ∨ j = 3) : swaps k j = true ↔ k = 0 ∨ j = 0 := by
  rcases hk with rfl | rfl | rfl <;> rcases hj with rfl | rfl | rfl <;> decide

theorem wpAnyT_firstX {Q : Act → World → Prop} {m : List Nat} (hf : FitsX ops kd m) {k : Nat} {ok : Oper} (hk : ops[k]? = some ok) : ∀ (fuel : Nat) (listed : Array Bool) (a : Act) (w : World), C w → Closed ops listed → listed.size = ops.size →
    (∀ i, i < k → listed.getD i false = true) → k ∈ Region.ready .any ops listed → tOp P ops C kd k (wpAnyT P ops C kd Q fuel (listed.setIfInBounds k true)) a w →
    (∀ f, altX ops kd m k f = true → listed.getD f false = false → tOp P ops C kd f (wpAnyT P ops C kd Q fuel (listed.setIfInBounds f true)) a w) → wpAnyT P ops C kd Q (fuel + 1) listed a w := by
  have hks : k < ops.size := (Array.getElem?_eq_some_iff.1 hk).1
  intro fuel
  induction fuel with
  | zero =>
    intro listed a w hw hcl hsz hlow hr H HF
    refine ⟨fun h => (by rw [h] at hr; cases hr), fun j hj => ?_⟩
    by_cases hjk : j = k
    · subst hjk; exact H
    · obtain ⟨a', w', hK⟩ := tOp_some H
      have := ready_mono hj hjk
      rw [hK.1] at this
      cases this
  | succ fuel ih =>
    intro listed a w hw hcl hsz hlow hr H HF
    refine ⟨fun h => (by rw [h] at hr; cases hr), fun j hj => ?_⟩
    by_cases hjk : j = k
    · subst hjk; exact H
    · have hjun := unlisted_of_ready hj
      have hkun := unlisted_of_ready hr
      obtain ⟨_, oj, hoj, hall⟩ := mem_ready.1 hj
      have hjs : j < ops.size := (Array.getElem?_eq_some_iff.1 hoj).1
      have hkj : k < j := by
        rcases Nat.lt_trichotomy k j with h' | h' | h'
        · exact h'
        · exact absurd h'.symm hjk
        · have := hlow j h'
          rw [hjun] at this; cases this
      by_cases hal : altX ops kd m k j = true
      · exact HF j hal hjun
      · have hnot : (m.getD j 0).testBit k = false := by
          cases hb : (m.getD j 0).testBit k with
          | false => rfl
          | true => exact absurd hj (waits_unlisted hf.mks hcl hkun j j (Nat.le_refl _) hjs hf.ord hks hb).2
        have hnot' : (m.getD k 0).testBit j = false := by
          cases hb : (m.getD k 0).testBit j with
          | false => rfl
          | true => exact absurd hr (waits_unlisted hf.mks hcl hjun k k (Nat.le_refl _) hks hf.ord hjs hb).2
        have hsw : swaps (kd k) (kd j) = true := by
          simp only [altX, hkj, hjs, hnot, decide_true, Bool.true_and, Bool.not_false, Bool.not_eq_true', Bool.not_eq_false] at hal
          exact hal
        have hq := (swaps_quiet (hf.kinds k hks) (hf.kinds j hjs)).1 hsw
        have hap := hf.apart j k ok oj hk hoj (Ne.symm hjk) hnot hnot' hq
        have h1 : tOp P ops C kd k (tOp P ops C kd j (wpAnyT P ops C kd Q fuel ((listed.setIfInBounds k true).setIfInBounds j true))) a w :=
          tOp_mono hw (fun a' w' _ hK => hK.2 j (ready_mono hj hjk)) H
        have h2 := tOp_swap hw hk hoj (fun cs b => hf.sel k ok cs b hk) (fun cs b => hf.sel j oj cs b hoj) hap hsw h1
        have hcl' := hcl.set hj
        have step : ∀ a' w', C w' → tOp P ops C kd k (wpAnyT P ops C kd Q fuel ((listed.setIfInBounds k true).setIfInBounds j true)) a' w' →
            (∀ f, altX ops kd m k f = true → listed.getD f false = false → f ≠ j → tOp P ops C kd f (wpAnyT P ops C kd Q fuel ((listed.setIfInBounds f true).setIfInBounds j true)) a' w') →
            wpAnyT P ops C kd Q (fuel + 1) (listed.setIfInBounds j true) a' w' := by
          intro a' w' hw' h3 h4
          refine ih (listed.setIfInBounds j true) a' w' hw' hcl' (by simpa using hsz) (fun i hi => getD_set_true (hlow i hi)) (ready_mono hr (Ne.symm hjk)) ?_ ?_
          · rw [Array.setIfInBounds_comm _ _ hjk]
            exact h3
          · intro f hfa hfu
            have hfj : f ≠ j := by
              intro e
              subst e
              exact hal hfa
            rw [getD_set_ne false (Ne.symm hfj)] at hfu
            rw [Array.setIfInBounds_comm _ _ (Ne.symm hfj)]
            exact h4 f hfa hfu hfj
        by_cases hk0 : kd k = 0
        · refine tOp_mono hw (fun a' w' hw' h3 => step a' w' hw' h3 ?_) h2
          intro f hfa
          exfalso
          simp only [altX, Bool.and_eq_true, decide_eq_true_eq, Bool.not_eq_true'] at hfa
          have := (swaps_quiet (hf.kinds k hks) (hf.kinds f hfa.1.1.2)).2 (.inl hk0)
          rw [hfa.2] at this
          cases this
        · have hj0 : kd j = 0 := hq.resolve_left hk0
          obtain ⟨v, hv, h3⟩ := yieldsC_of_tOp hoj hj0 h2
          refine YieldsC.tOp hoj (.inl hj0) hv (step _ _ hw h3 ?_)
          intro f hfa hfu hfj
          have hfs : f < ops.size := by
            simp only [altX, Bool.and_eq_true, decide_eq_true_eq] at hfa
            exact hfa.1.1.2
          obtain ⟨of, hof⟩ : ∃ of, ops[f]? = some of := ⟨ops[f], by simp [hfs]⟩
          have hfr : f ∈ Region.ready .any ops listed := by
            refine mem_ready.2 ⟨?_, of, hof, fun e he hb => ?_⟩
            · have : f < listed.size := by omega
              simp [this] at hfu ⊢
              exact hfu
            · exact hlow _ (hf.alts k f of hof hks hfa e he hb)
          have n1 : (m.getD j 0).testBit f = false := by
            cases hb : (m.getD j 0).testBit f with
            | false => rfl
            | true => exact absurd hj (waits_unlisted hf.mks hcl hfu j j (Nat.le_refl _) hjs hf.ord hfs hb).2
          have n2 : (m.getD f 0).testBit j = false := by
            cases hb : (m.getD f 0).testBit j with
            | false => rfl
            | true => exact absurd hfr (waits_unlisted hf.mks hcl hjun f f (Nat.le_refl _) hfs hf.ord hjs hb).2
          have g1 : tOp P ops C kd f (tOp P ops C kd j (wpAnyT P ops C kd Q fuel ((listed.setIfInBounds f true).setIfInBounds j true))) a w :=
            tOp_mono hw (fun a' w' _ hK => hK.2 j (ready_mono hj (Ne.symm hfj))) (HF f hfa hfu)
          have g2 := tOp_swap hw hof hoj (fun cs b => hf.sel f of cs b hof) (fun cs b => hf.sel j oj cs b hoj) (hf.apart j f of oj hof hoj hfj n1 n2 (.inr hj0)) ((swaps_quiet (hf.kinds f hfs) (hf.kinds j hjs)).2 (.inr hj0)) g1
          obtain ⟨u, hu, g3⟩ := yieldsC_of_tOp hoj hj0 g2
          rw [hv.unique hw hu]
          exact g3

theorem getD_set_self_true (l : Array Bool) (k : Nat) (h : k < l.size) : (l.setIfInBounds k true).getD k false = true := by
  simp [h]

/-- A walk over the operations 'rest' (numbers, in the order of the text), with the other ways where two stand in no order. -/
def wpX (P : Program) (ops : Array Oper) (C : World → Prop) (kd : Nat → Nat) (m : List Nat) (Q : Act → World → Prop) : Nat → List Nat → Act → World → Prop
  | 0, _, a, w => Q a w
  | _ + 1, [], a, w => Q a w
  | n + 1, k :: rest, a, w => tOp P ops C kd k (wpX P ops C kd m Q n rest) a w ∧ ∀ f ∈ rest, altX ops kd m k f = true → tOp P ops C kd f (wpX P ops C kd m Q n (k :: rest.erase f)) a w

theorem wpAnyT_X {Q : Act → World → Prop} {m : List Nat} (hf : FitsX ops kd m) : ∀ (n : Nat) (rest : List Nat) (listed : Array Bool) (a : Act) (w : World), C w → Closed ops listed → listed.size = ops.size → rest.length = n → rest.Pairwise (· < ·) →
    (∀ i ∈ rest, i < ops.size) → (∀ i, i < ops.size → (listed.getD i false = false ↔ i ∈ rest)) → wpX P ops C kd m Q n rest a w → wpAnyT P ops C kd Q n listed a w := by
  intro n
  induction n with
  | zero =>
    intro rest listed a w hw hcl hsz hn hs hb hli h
    have : rest = [] := List.eq_nil_of_length_eq_zero hn
    subst this
    refine ⟨?_, h⟩
    cases hr : Region.ready .any ops listed with
    | nil => rfl
    | cons i r =>
      have hi : i ∈ Region.ready .any ops listed := by rw [hr]; exact List.mem_cons_self
      have hun := unlisted_of_ready hi
      obtain ⟨_, oi, hoi, _⟩ := mem_ready.1 hi
      have := (hli i (Array.getElem?_eq_some_iff.1 hoi).1).1 hun
      cases this
  | succ n ih =>
    intro rest listed a w hw hcl hsz hn hs hb hli h
    match rest, hn, hs, hb, hli, h with
    | k :: rest, hn, hs, hb, hli, h =>
      have hks : k < ops.size := hb k List.mem_cons_self
      obtain ⟨ok, hk⟩ : ∃ ok, ops[k]? = some ok := ⟨ops[k], by simp [hks]⟩
      rw [List.pairwise_cons] at hs
      have hlow : ∀ i, i < k → listed.getD i false = true := by
        intro i hi
        cases hc : listed.getD i false with
        | true => rfl
        | false =>
          have := (hli i (by omega)).1 hc
          rcases List.mem_cons.1 this with e | e
          · omega
          · have := hs.1 i e; omega
      have rdy : ∀ i oi, ops[i]? = some oi → i ∈ k :: rest → (∀ e ∈ oi.after, Region.binds .any e = true → e.on < k) → i ∈ Region.ready .any ops listed := by
        intro i oi hi him hd
        have his := (Array.getElem?_eq_some_iff.1 hi).1
        refine mem_ready.2 ⟨?_, oi, hi, fun e he hb => hlow _ (hd e he hb)⟩
        have h1 := (hli i his).2 him
        have : i < listed.size := by omega
        simp [this] at h1 ⊢
        exact h1
      have hready := rdy k ok hk List.mem_cons_self (fun e he hb => hf.ord k ok hk e he hb)
      refine wpAnyT_firstX hf hk n listed a w hw hcl hsz hlow hready ?_ ?_
      · refine tOp_mono hw (fun a' w' hw' h' => ih rest _ a' w' hw' (hcl.set hready) (by simpa using hsz) (by simpa using hn) hs.2 (fun i hi => hb i (List.mem_cons_of_mem _ hi)) (fun i hi => ?_) h') h.1
        by_cases hik : k = i
        · subst hik
          constructor
          · intro hc
            rw [getD_set_self_true listed k (by omega)] at hc
            cases hc
          · intro hc
            exact absurd (hs.1 k hc) (by omega)
        · rw [getD_set_ne false hik, hli i hi, List.mem_cons]
          constructor
          · rintro (e | e)
            · exact absurd e.symm hik
            · exact e
          · exact .inr
      · intro f hfa hfu
        have hfa' := hfa
        simp only [altX, Bool.and_eq_true, decide_eq_true_eq] at hfa'
        have hkf : k < f := hfa'.1.1.1
        have hfs : f < ops.size := hfa'.1.1.2
        obtain ⟨of, hof⟩ : ∃ of, ops[f]? = some of := ⟨ops[f], by simp [hfs]⟩
        have hfm : f ∈ rest := by
          rcases List.mem_cons.1 ((hli f hfs).1 hfu) with e | e
          · omega
          · exact e
        have hfr := rdy f of hof (List.mem_cons_of_mem _ hfm) (hf.alts k f of hof hks hfa)
        have hnd : rest.Nodup := hs.2.imp (fun h => Nat.ne_of_lt h)
        refine tOp_mono hw (fun a' w' hw' h' => ih (k :: rest.erase f) _ a' w' hw' (hcl.set hfr) (by simpa using hsz) ?_ ?_ ?_ (fun i hi => ?_) h') (h.2 f hfm hfa)
        · have := List.length_erase_of_mem hfm
          have hp : 0 < rest.length := List.length_pos_of_mem hfm
          simp only [List.length_cons] at hn ⊢
          omega
        · exact List.pairwise_cons.2 ⟨fun i hi => hs.1 i (List.mem_of_mem_erase hi), hs.2.sublist List.erase_sublist⟩
        · intro i hi
          rcases List.mem_cons.1 hi with e | e
          · exact e ▸ hks
          · exact hb i (List.mem_cons_of_mem _ (List.mem_of_mem_erase e))
        · by_cases hif : f = i
          · subst hif
            constructor
            · intro hc
              rw [getD_set_self_true listed f (by omega)] at hc
              cases hc
            · intro hc
              rcases List.mem_cons.1 hc with e | e
              · omega
              · exact absurd e (hnd.not_mem_erase)
          · rw [getD_set_ne false hif, hli i hi, List.mem_cons, List.mem_cons, hnd.mem_erase_iff]
            constructor
            · rintro (e | e)
              · exact .inl e
              · exact .inr ⟨fun e => hif e.symm, e⟩
            · rintro (e | ⟨_, e⟩)
              · exact .inl e
              · exact .inr e

theorem tOp_of_wpT {Q : Act → World → Prop} {k : Nat} {o : Oper} (hk : ops[k]? = some o) {a : Act} {w : World} (h : wpT P ops C kd Q k [o] a w) : tOp P ops C kd k Q a w := by
  rw [wpT_cons] at h
  unfold tOp
  simp only [hk]
  simp only [wpT_nil_eq] at h
  exact h

/-- A row of operations that have no other way is walked at once. -/
theorem wpX_run {m : List Nat} {Q : Act → World → Prop} (n : Nat) (rest : List Nat) : ∀ (l : List Oper) (k : Nat) (a : Act) (w : World), C w → (∀ j, j < l.length → ops[k + j]? = l[j]?) →
    (∀ j, j < l.length → ∀ f, k + j < f → f < k + l.length ∨ f ∈ rest → altX ops kd m (k + j) f = false) → (∀ f ∈ rest, ∀ j, j < l.length → altX ops kd m (k + j) f = false) →
    wpT P ops C kd (wpX P ops C kd m Q n rest) k l a w → wpX P ops C kd m Q (l.length + n) (List.range' k l.length ++ rest) a w
  | [], k, a, w, _, _, _, _, h => by
    rw [wpT_nil_eq] at h
    simpa using h
  | o :: l, k, a, w, hw, hl, ha, hr, h => by
    have hk : ops[k]? = some o := by simpa using hl 0 (by simp)
    have e : (o :: l).length + n = (l.length + n) + 1 := by simp only [List.length_cons]; omega
    have e2 : List.range' k (o :: l).length ++ rest = k :: (List.range' (k + 1) l.length ++ rest) := by
      simp [List.range'_succ]
    rw [e, e2]
    refine ⟨?_, fun f hf hal => ?_⟩
    · have h' : wpT P ops C kd (fun a' w' => wpT P ops C kd (wpX P ops C kd m Q n rest) (k + 1) l a' w') k [o] a w := by
        rw [wpT_cons] at h ⊢
        simp only [wpT_nil_eq]
        exact h
      refine tOp_mono hw (fun a' w' hw' h2 => wpX_run n rest l (k + 1) a' w' hw' (fun j hj => ?_) (fun j hj f hf hf' => ?_) (fun f hf j hj => ?_) h2) (tOp_of_wpT hk h')
      · have := hl (j + 1) (by simpa using hj)
        rw [show k + 1 + j = k + (j + 1) by omega]
        simpa using this
      · rw [show k + 1 + j = k + (j + 1) by omega] at hf ⊢
        refine ha (j + 1) (by simpa using hj) f hf (hf'.imp (fun h => by simp only [List.length_cons]; omega) id)
      · rw [show k + 1 + j = k + (j + 1) by omega]
        exact hr f hf (j + 1) (by simpa using hj)
    · exfalso
      have hf' : altX ops kd m k f = false := by
        rcases List.mem_append.1 hf with e | e
        · have := List.mem_range'_1.1 e
          exact ha 0 (by simp) f (by omega) (.inl (by simp only [List.length_cons]; omega))
        · exact hr f e 0 (by simp)
      rw [hf'] at hal
      cases hal

theorem wpX_fork {m : List Nat} {Q : Act → World → Prop} {n k : Nat} {rest : List Nat} {a : Act} {w : World} (f : Nat) (o p : Oper) (hk : ops[k]? = some o) (hf : ops[f]? = some p) (only : (rest.all fun g => g == f || !altX ops kd m k g) = true)
    (h1 : wpT P ops C kd (wpX P ops C kd m Q n rest) k [o] a w) (h2 : wpT P ops C kd (wpX P ops C kd m Q n (k :: rest.erase f)) f [p] a w) : wpX P ops C kd m Q (n + 1) (k :: rest) a w := by
  refine ⟨tOp_of_wpT hk h1, fun g hg hal => ?_⟩
  have := List.all_eq_true.1 only g hg
  simp only [hal, Bool.not_true, Bool.or_false, beq_iff_eq] at this
  subst this
  exact tOp_of_wpT hf h2

/-- ONE WALK, WITH FORKS. -/
theorem wp_region_X {id : Nat} {Q : Exit → Act → World → Prop} {a : Act} {w : World} {l : List Oper} (hm : P.follows .mixedOrders = true) (C : World → Prop) (kd : Nat → Nat) (hf : fitsX l.toArray kd (masks l.toArray) = true)
    (hC : C w.drew) (h : wpX P l.toArray C kd (masks l.toArray) (Q .normal) l.length (List.range' 0 l.length) a w.drew) : (Code.region id l.toArray true).wp P Q a w := by
  refine wp_region_any hm ?_
  have h1 := wpAnyT_X (FitsX.of hf) l.length (List.range' 0 l.length) (Array.replicate l.toArray.size false) a w.drew hC (fun j oj hj hlj => by
    simp [Array.getElem?_replicate] at hlj
    split at hlj <;> simp at hlj) (by simp) (by simp) (List.pairwise_lt_range' ..) (fun i hi => by have := List.mem_range'_1.1 hi; simpa using this.2) (fun i hi => by
      simp at hi
      simp [hi]) h
  have h2 := wpAny_of_T (Q' := Q) (fun _ _ _ h => h) l.length _ a w.drew hC h1
  simpa using h2

/-- c operations from number k on, in the text's order, none of which has another way. -/
theorem wpX_go {m : List Nat} {Q : Act → World → Prop} (k c n : Nat) (rest : List Nat) {N : Nat} {R : List Nat} {a : Act} {w : World} (hw : C w) (hc : ((ops.toList.drop k).take c).length = c) (hN : N = c + n) (hR : R = List.range' k c ++ rest)
    (ha : ((List.range c).all fun j => (List.range' k c ++ rest).all fun f => !(altX ops kd m (k + j) f)) = true) (h : wpT P ops C kd (wpX P ops C kd m Q n rest) k ((ops.toList.drop k).take c) a w) : wpX P ops C kd m Q N R a w := by
  subst hN hR
  have alt : ∀ j, j < c → ∀ f, f ∈ List.range' k c ++ rest → altX ops kd m (k + j) f = false := fun j hj f hf => by
    have := List.all_eq_true.1 (List.all_eq_true.1 ha j (List.mem_range.2 hj)) f hf
    simpa using this
  have h2 := wpX_run n rest ((ops.toList.drop k).take c) k a w hw (fun j hj => by
      rw [hc] at hj
      rw [List.getElem?_take_of_lt hj, List.getElem?_drop]
      simp) (fun j hj f hf hf' => by
      rw [hc] at hj hf'
      refine alt j hj f (List.mem_append.2 (hf'.imp (fun h => List.mem_range'_1.2 ⟨by omega, h⟩) id))) (fun f hf j hj => by
      rw [hc] at hj
      exact alt j hj f (List.mem_append.2 (.inr hf))) h
  rw [hc] at h2
  exact h2

theorem wpX_done {m : List Nat} {Q : Act → World → Prop} {R : List Nat} {a : Act} {w : World} (h : Q a w) : wpX P ops C kd m Q 0 R a w := h

end
end Go.Rg
