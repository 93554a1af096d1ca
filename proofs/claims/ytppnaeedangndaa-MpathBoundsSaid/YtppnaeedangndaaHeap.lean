/- Plain law: binary heaps in lists: what up, down, take and last of a queue keep and find. No program stands here. Conditions: the order is a strict weak one (Ords). -/
namespace Hp
variable {α : Type} [Inhabited α]

def nth (l : List α) (i : Nat) : α := l.getD i default

theorem nth_eq (l : List α) (i : Nat) (h : i < l.length) : nth l i = l[i] := by
  simp [nth, List.getD_eq_getElem?_getD, h]

theorem nth_set (l : List α) (i j : Nat) (v : α) (hi : i < l.length) : nth (l.set i v) j = if j = i then v else nth l j := by
  unfold nth
  simp only [List.getD_eq_getElem?_getD, List.getElem?_set]
  by_cases h : i = j
  · subst h; simp [hi]
  · have h' : ¬ j = i := fun e => h e.symm
    simp [h, h']

theorem nth_ext {a b : List α} (hl : a.length = b.length) (h : ∀ i, i < a.length → nth a i = nth b i) : a = b := by
  apply List.ext_getElem hl
  intro i h1 h2
  have := h i h1
  rwa [nth_eq _ _ h1, nth_eq _ _ h2] at this

theorem nth_mem (l : List α) (i : Nat) (h : i < l.length) : nth l i ∈ l := by
  rw [nth_eq _ _ h]; exact List.getElem_mem h

def swap (l : List α) (i j : Nat) : List α := (l.set i (nth l j)).set j (nth l i)

theorem length_swap (l : List α) (i j : Nat) : (swap l i j).length = l.length := by simp [swap]

theorem nth_swap (l : List α) (i j k : Nat) (hi : i < l.length) (hj : j < l.length) :
    nth (swap l i j) k = if k = j then nth l i else if k = i then nth l j else nth l k := by
  unfold swap
  rw [nth_set _ _ _ _ (by simpa using hj)]
  split
  · rfl
  · rw [nth_set _ _ _ _ hi]

theorem swap_perm (l : List α) (i j : Nat) (hi : i < l.length) (hj : j < l.length) : (swap l i j).Perm l := by
  unfold swap
  rw [nth_eq _ _ hi, nth_eq _ _ hj]
  exact List.set_set_perm hi hj

structure Ords (lt : α → α → Bool) : Prop where
  asymm : ∀ a b, lt a b = true → lt b a = false
  trans : ∀ a b c, lt b a = false → lt c b = false → lt c a = false

omit [Inhabited α] in
theorem Ords.irrefl {lt : α → α → Bool} (o : Ords lt) (a : α) : lt a a = false := by
  cases h : lt a a
  · rfl
  · have := o.asymm a a h; rw [h] at this; exact this

variable (lt : α → α → Bool)

def up (l : List α) (i : Nat) : List α :=
  if i = 0 then l
  else if lt (nth l i) (nth l ((i - 1) / 2)) = true then up (swap l i ((i - 1) / 2)) ((i - 1) / 2) else l
termination_by i
decreasing_by omega

def child (l : List α) (i : Nat) : Nat :=
  if 2 * i + 2 < l.length ∧ lt (nth l (2 * i + 2)) (nth l (2 * i + 1)) = true then 2 * i + 2 else 2 * i + 1

theorem child_lo (l : List α) (i : Nat) : i < child lt l i := by unfold child; split <;> omega

theorem child_ge (l : List α) (i : Nat) : 2 * i + 1 ≤ child lt l i := by unfold child; split <;> omega

theorem child_hi (l : List α) (i : Nat) (h : 2 * i + 1 < l.length) : child lt l i < l.length := by unfold child; split <;> omega

def down (l : List α) (i : Nat) : List α :=
  if 2 * i + 1 < l.length then
    if lt (nth l (child lt l i)) (nth l i) = true then down (swap l i (child lt l i)) (child lt l i) else l
  else l
termination_by l.length - i
decreasing_by
  rw [length_swap]
  have := child_lo lt l i
  have := child_hi lt l i (by assumption)
  omega

theorem up_length (n : Nat) : ∀ (l : List α) (i : Nat), i ≤ n → (up lt l i).length = l.length := by
  induction n with
  | zero =>
    intro l i hi
    unfold up
    rw [if_pos (by omega)]
  | succ n ih =>
    intro l i hi
    unfold up
    split
    · rfl
    · split
      · rw [ih _ _ (by omega), length_swap]
      · rfl

theorem length_up (l : List α) (i : Nat) : (up lt l i).length = l.length := up_length lt i l i (Nat.le_refl _)

theorem up_perm (n : Nat) : ∀ (l : List α) (i : Nat), i ≤ n → i < l.length → (up lt l i).Perm l := by
  induction n with
  | zero =>
    intro l i hi _
    unfold up
    rw [if_pos (by omega)]
  | succ n ih =>
    intro l i hi hl
    unfold up
    split
    · exact List.Perm.refl _
    · split
      · exact (ih _ _ (by omega) (by rw [length_swap]; omega)).trans (swap_perm l _ _ hl (by omega))
      · exact List.Perm.refl _

theorem perm_up (l : List α) (i : Nat) (h : i < l.length) : (up lt l i).Perm l := up_perm lt i l i (Nat.le_refl _) h

theorem down_perm (n : Nat) : ∀ (l : List α) (i : Nat), l.length - i ≤ n → (down lt l i).Perm l := by
  induction n with
  | zero =>
    intro l i hi
    unfold down
    rw [if_neg (by omega)]
  | succ n ih =>
    intro l i hi
    unfold down
    split
    · rename_i hk
      split
      · have h1 := child_lo lt l i
        have h2 := child_hi lt l i hk
        exact (ih _ _ (by rw [length_swap]; omega)).trans (swap_perm l _ _ (by omega) h2)
      · exact List.Perm.refl _
    · exact List.Perm.refl _

theorem perm_down (l : List α) (i : Nat) : (down lt l i).Perm l := down_perm lt _ l i (Nat.le_refl _)

theorem length_down (l : List α) (i : Nat) : (down lt l i).length = l.length := (perm_down lt l i).length_eq

def Heap (l : List α) : Prop := ∀ i, 0 < i → i < l.length → lt (nth l i) (nth l ((i - 1) / 2)) = false

def HeapFrom (m : Nat) (l : List α) : Prop := ∀ i, 0 < i → i < l.length → m ≤ (i - 1) / 2 → lt (nth l i) (nth l ((i - 1) / 2)) = false

theorem heap_from_zero (l : List α) : HeapFrom lt 0 l ↔ Heap lt l := ⟨fun h i a b => h i a b (Nat.zero_le _), fun h i a b _ => h i a b⟩

structure UpInv (l : List α) (k : Nat) : Prop where
  inside : k < l.length
  other : ∀ i, 0 < i → i < l.length → i ≠ k → lt (nth l i) (nth l ((i - 1) / 2)) = false
  kids : ∀ i, 0 < i → i < l.length → (i - 1) / 2 = k → 0 < k → lt (nth l i) (nth l ((k - 1) / 2)) = false

theorem heap_up {lt : α → α → Bool} (o : Ords lt) (n : Nat) : ∀ (l : List α) (k : Nat), k ≤ n → UpInv lt l k → Heap lt (up lt l k) := by
  induction n with
  | zero =>
    intro l k hk h
    unfold up
    rw [if_pos (by omega)]
    intro i h0 hi
    exact h.other i h0 hi (by omega)
  | succ n ih =>
    intro l k hk h
    unfold up
    split
    · intro i h0 hi
      exact h.other i h0 hi (by omega)
    · rename_i hk0
      split
      · rename_i hlt
        have hkl := h.inside
        refine ih _ _ (by omega) ⟨by rw [length_swap]; omega, ?_, ?_⟩
        · intro i h0 hi hne
          rw [length_swap] at hi
          rw [nth_swap _ _ _ _ hkl (by omega), nth_swap _ _ _ _ hkl (by omega)]
          rw [if_neg hne]
          by_cases hik : i = k
          · subst hik
            rw [if_pos rfl, if_pos rfl]
            exact o.asymm _ _ hlt
          · rw [if_neg hik]
            by_cases hp : (i - 1) / 2 = (k - 1) / 2
            · rw [if_pos hp]
              have h1 := h.other i h0 hi hik
              rw [hp] at h1
              exact o.trans _ _ _ (o.asymm _ _ hlt) h1
            · rw [if_neg hp]
              by_cases hpk : (i - 1) / 2 = k
              · rw [if_pos hpk]
                exact h.kids i h0 hi hpk (by omega)
              · rw [if_neg hpk]
                exact h.other i h0 hi hik
        · intro i h0 hi hp hpos
          rw [length_swap] at hi
          rw [nth_swap _ _ _ _ hkl (by omega), nth_swap _ _ _ _ hkl (by omega)]
          have hpp : lt (nth l ((k - 1) / 2)) (nth l (((k - 1) / 2 - 1) / 2)) = false := h.other _ hpos (by omega) (by omega)
          rw [if_neg (by omega : ¬ i = (k - 1) / 2), if_neg (by omega : ¬ ((k - 1) / 2 - 1) / 2 = (k - 1) / 2), if_neg (by omega : ¬ ((k - 1) / 2 - 1) / 2 = k)]
          by_cases hik : i = k
          · rw [if_pos hik]; exact hpp
          · rw [if_neg hik]
            have h1 := h.other i h0 hi hik
            rw [hp] at h1
            exact o.trans _ _ _ hpp h1
      · rename_i hlt
        intro i h0 hi
        by_cases hik : i = k
        · subst hik; simpa using hlt
        · exact h.other i h0 hi hik

structure DownInv (m : Nat) (l : List α) (k : Nat) : Prop where
  le : m ≤ k
  other : ∀ i, 0 < i → i < l.length → m ≤ (i - 1) / 2 → (i - 1) / 2 ≠ k → lt (nth l i) (nth l ((i - 1) / 2)) = false
  kids : ∀ i, 0 < i → i < l.length → (i - 1) / 2 = k → 0 < k → m ≤ (k - 1) / 2 → lt (nth l i) (nth l ((k - 1) / 2)) = false

theorem child_least {lt : α → α → Bool} (o : Ords lt) (l : List α) (k i : Nat) (h0 : 0 < i) (hi : i < l.length) (hp : (i - 1) / 2 = k) :
    lt (nth l i) (nth l (child lt l k)) = false := by
  unfold child
  have : i = 2 * k + 1 ∨ i = 2 * k + 2 := by omega
  split
  · rename_i hc
    rcases this with rfl | rfl
    · exact o.asymm _ _ hc.2
    · exact o.irrefl _
  · rename_i hc
    rcases this with rfl | rfl
    · exact o.irrefl _
    · by_cases hb : lt (nth l (2 * k + 2)) (nth l (2 * k + 1)) = true
      · exact absurd ⟨hi, hb⟩ hc
      · simpa using hb

theorem child_parent (l : List α) (k : Nat) : (child lt l k - 1) / 2 = k := by unfold child; split <;> omega

theorem heap_down {lt : α → α → Bool} (o : Ords lt) (m n : Nat) : ∀ (l : List α) (k : Nat), l.length - k ≤ n → DownInv lt m l k → HeapFrom lt m (down lt l k) := by
  induction n with
  | zero =>
    intro l k hk h
    unfold down
    rw [if_neg (by omega)]
    intro i h0 hi hm
    exact h.other i h0 hi hm (by omega)
  | succ n ih =>
    intro l k hk h
    unfold down
    split
    · rename_i hkl
      have c1 := child_lo lt l k
      have c2 := child_hi lt l k hkl
      have c3 := child_parent lt l k
      have hmk := h.le
      split
      · rename_i hlt
        generalize hc : child lt l k = c at *
        refine ih _ _ (by rw [length_swap]; omega) ⟨by omega, ?_, ?_⟩
        · intro i h0 hi hm hne
          rw [length_swap] at hi
          rw [nth_swap _ _ _ _ (by omega) c2, nth_swap _ _ _ _ (by omega) c2]
          by_cases hic : i = c
          · subst hic
            rw [if_pos rfl, if_neg (by omega), if_pos c3]
            exact o.asymm _ _ hlt
          · rw [if_neg hic]
            by_cases hpk : (i - 1) / 2 = k
            · rw [if_neg (by omega : ¬ i = k), if_neg (by omega : ¬ (i - 1) / 2 = c), if_pos hpk]
              have := child_least o l k i h0 hi hpk
              rwa [hc] at this
            · rw [if_neg hne, if_neg hpk]
              by_cases hik : i = k
              · rw [if_pos hik]
                subst hik
                exact h.kids c (by omega) c2 c3 h0 hm
              · rw [if_neg hik]
                exact h.other i h0 hi hm hpk
        · intro i h0 hi hp hpos hm
          rw [length_swap] at hi
          rw [nth_swap _ _ _ _ (by omega) c2, nth_swap _ _ _ _ (by omega) c2]
          rw [c3, if_neg (by omega : ¬ i = c), if_neg (by omega : ¬ i = k), if_neg (by omega : ¬ k = c), if_pos rfl]
          have := h.other i h0 hi (by omega) (by omega)
          rwa [hp] at this
      · rename_i hlt
        intro i h0 hi hm
        by_cases hpk : (i - 1) / 2 = k
        · have h1 := child_least o l k i h0 hi hpk
          rw [hpk]
          exact o.trans _ _ _ (by simpa using hlt) h1
        · exact h.other i h0 hi hm hpk
    · rename_i hkl
      intro i h0 hi hm
      exact h.other i h0 hi hm (by omega)

theorem up_of_heap (l : List α) (h : Heap lt l) (k : Nat) (hk : k < l.length) : up lt l k = l := by
  unfold up
  split
  · rfl
  · rw [if_neg]
    rw [h k (by omega) hk]
    simp

theorem heap_root {lt : α → α → Bool} (o : Ords lt) (l : List α) (h : Heap lt l) (n : Nat) : ∀ i, i ≤ n → i < l.length → lt (nth l i) (nth l 0) = false := by
  induction n with
  | zero =>
    intro i hi _
    obtain rfl : i = 0 := by omega
    exact o.irrefl _
  | succ n ih =>
    intro i hi hl
    by_cases h0 : i = 0
    · subst h0; exact o.irrefl _
    · exact o.trans _ _ _ (ih ((i - 1) / 2) (by omega) (by omega)) (h i (by omega) hl)

/-- Push without regard to room. -/
def push (l : List α) (x : α) : List α := up lt (l ++ [x]) l.length

theorem nth_append_left (l : List α) (r : List α) (i : Nat) (h : i < l.length) : nth (l ++ r) i = nth l i := by
  simp [nth, List.getD_eq_getElem?_getD, List.getElem?_append_left h]

theorem nth_append_last (l : List α) (x : α) : nth (l ++ [x]) l.length = x := by
  simp [nth, List.getD_eq_getElem?_getD]

theorem push_heap {lt : α → α → Bool} (o : Ords lt) (l : List α) (x : α) (h : Heap lt l) : Heap lt (push lt l x) := by
  refine heap_up o _ _ _ (Nat.le_refl _) ⟨by simp, ?_, ?_⟩
  · intro i h0 hi hne
    simp at hi
    rw [nth_append_left _ _ _ (by omega), nth_append_left _ _ _ (by omega)]
    exact h i h0 (by omega)
  · intro i h0 hi hp
    simp at hi
    omega

theorem push_perm (l : List α) (x : α) : (push lt l x).Perm (x :: l) :=
  (perm_up lt _ _ (by simp)).trans (List.perm_append_singleton x l)

/-- The list when the item at place i has gone. -/
def take (l : List α) (i : Nat) : List α :=
  let s := (l.set i (nth l (l.length - 1))).take (l.length - 1)
  if i < l.length - 1 then up lt (down lt s i) i else s

theorem nth_take (l : List α) (n i : Nat) (h : i < n) : nth (l.take n) i = nth l i := by
  simp [nth, List.getD_eq_getElem?_getD, h]

theorem perm_cut (l : List α) (i : Nat) (h : i < l.length) : l.Perm (nth l i :: (l.set i (nth l (l.length - 1))).take (l.length - 1)) := by
  have hs : swap l i (l.length - 1) = (l.set i (nth l (l.length - 1))).take (l.length - 1) ++ [nth l i] := by
    refine nth_ext (by simp [length_swap]; omega) ?_
    intro k hk
    rw [length_swap] at hk
    rw [nth_swap _ _ _ _ h (by omega)]
    by_cases hk2 : k < l.length - 1
    · rw [nth_append_left _ _ _ (by simp; omega), nth_take _ _ _ hk2, nth_set _ _ _ _ h]
      rw [if_neg (by omega : ¬ k = l.length - 1)]
    · obtain rfl : k = l.length - 1 := by omega
      have : nth ((l.set i (nth l (l.length - 1))).take (l.length - 1) ++ [nth l i]) ((l.set i (nth l (l.length - 1))).take (l.length - 1)).length = nth l i := nth_append_last _ _
      have e : ((l.set i (nth l (l.length - 1))).take (l.length - 1)).length = l.length - 1 := by simp
      rw [e] at this
      rw [this, if_pos rfl]
  exact (swap_perm l i (l.length - 1) h (by omega)).symm.trans (hs ▸ List.perm_append_singleton _ _)

theorem take_perm (l : List α) (i : Nat) (h : i < l.length) : l.Perm (nth l i :: take lt l i) := by
  refine (perm_cut l i h).trans (List.Perm.cons _ ?_)
  unfold take
  dsimp only
  split
  · rename_i hi
    refine ((perm_up lt _ _ ?_).trans (perm_down lt _ _)).symm
    rw [length_down]; simp; omega
  · exact List.Perm.refl _

theorem length_take (l : List α) (i : Nat) (h : i < l.length) : (take lt l i).length = l.length - 1 := by
  have := (take_perm lt l i h).length_eq
  simp at this
  omega

theorem take_heap {lt : α → α → Bool} (o : Ords lt) (l : List α) (i : Nat) (hi : i < l.length) (h : Heap lt l) : Heap lt (take lt l i) := by
  unfold take
  dsimp only
  generalize hsd : (l.set i (nth l (l.length - 1))).take (l.length - 1) = s
  have hlen : s.length = l.length - 1 := by subst hsd; simp
  have hnth : ∀ k, k < l.length - 1 → nth s k = if k = i then nth l (l.length - 1) else nth l k := by
    intro k hk
    subst hsd
    rw [nth_take _ _ _ hk, nth_set _ _ _ _ hi]
  split
  · rename_i hi2
    -- the pairs that do not touch i
    have hother : ∀ j, 0 < j → j < s.length → j ≠ i → (j - 1) / 2 ≠ i → lt (nth s j) (nth s ((j - 1) / 2)) = false := by
      intro j h0 hj h1 h2
      rw [hnth j (by omega), hnth _ (by omega), if_neg h1, if_neg h2]
      exact h j h0 (by omega)
    have hkids : ∀ j, 0 < j → j < s.length → (j - 1) / 2 = i → 0 < i → lt (nth s j) (nth s ((i - 1) / 2)) = false := by
      intro j h0 hj h1 hpos
      rw [hnth j (by omega), hnth _ (by omega), if_neg (by omega), if_neg (by omega)]
      have a := h j h0 (by omega)
      rw [h1] at a
      exact o.trans _ _ _ (h i hpos hi) a
    by_cases hb : 0 < i ∧ lt (nth s i) (nth s ((i - 1) / 2)) = true
    · -- it goes up: nothing goes down
      have hd : down lt s i = s := by
        unfold down
        split
        · rename_i hk
          rw [if_neg]
          have c1 := child_lo lt s i
          have c2 := child_hi lt s i hk
          have c3 := child_parent lt s i
          have a := hkids (child lt s i) (by omega) c2 c3 hb.1
          have := o.trans _ _ _ (o.asymm _ _ hb.2) a
          rw [this]; simp
        · rfl
      rw [hd]
      refine heap_up o _ _ _ (Nat.le_refl _) ⟨by omega, ?_, hkids⟩
      intro j h0 hj hne
      by_cases hp : (j - 1) / 2 = i
      · have a := hkids j h0 hj hp hb.1
        rw [hp]
        exact o.trans _ _ _ (o.asymm _ _ hb.2) a
      · exact hother j h0 hj hne hp
    · have hD : DownInv lt 0 s i := by
        refine ⟨Nat.zero_le _, ?_, fun j h0 hj hp hpos _ => hkids j h0 hj hp hpos⟩
        intro j h0 hj _ hp
        by_cases hji : j = i
        · subst hji
          cases hq : lt (nth s j) (nth s ((j - 1) / 2)) with
          | false => rfl
          | true => exact absurd ⟨h0, hq⟩ hb
        · exact hother j h0 hj hji hp
      have hH := (heap_from_zero lt _).1 (heap_down o 0 _ s i (Nat.le_refl _) hD)
      rw [up_of_heap lt _ hH i (by rw [length_down]; omega)]
      exact hH
  · rename_i hi2
    intro j h0 hj
    rw [hnth j (by omega), hnth _ (by omega), if_neg (by omega), if_neg (by omega)]
    exact h j h0 (by omega)

/-- Where the one stands that comes last. -/
def lastFrom (l : List α) : Nat → Nat → Nat
  | 0, k => k
  | n + 1, k => lastFrom l n (if lt (nth l k) (nth l (l.length - (n + 1))) = true then l.length - (n + 1) else k)

def last (l : List α) : Nat := lastFrom lt l l.length 0

theorem lastFrom_spec {lt : α → α → Bool} (o : Ords lt) (l : List α) (n : Nat) : ∀ k, n ≤ l.length → k < l.length →
    (∀ j, j < l.length - n → lt (nth l k) (nth l j) = false) →
    lastFrom lt l n k < l.length ∧ ∀ j, j < l.length → lt (nth l (lastFrom lt l n k)) (nth l j) = false := by
  induction n with
  | zero => intro k _ hk h; exact ⟨hk, fun j hj => h j (by omega)⟩
  | succ n ih =>
    intro k hn hk h
    unfold lastFrom
    refine ih _ (by omega) (by split <;> omega) ?_
    intro j hj
    by_cases hj2 : j < l.length - (n + 1)
    · have a := h j hj2
      split
      · rename_i hlt
        exact o.trans _ _ _ a (o.asymm _ _ hlt)
      · exact a
    · obtain rfl : j = l.length - (n + 1) := by omega
      split
      · exact o.irrefl _
      · rename_i hlt; simpa using hlt

theorem last_spec {lt : α → α → Bool} (o : Ords lt) (l : List α) (h0 : 0 < l.length) :
    last lt l < l.length ∧ ∀ j, j < l.length → lt (nth l (last lt l)) (nth l j) = false :=
  lastFrom_spec o l l.length 0 (Nat.le_refl _) h0 (fun j hj => by omega)

end Hp
