/- The laws of trees in plain Lean: paths prove elements, links prove extensions, and what equal roots show. No program in sight. -/
import Derived.Test.YtmmpndijfbbnnaaDoorTree2
namespace Go.Proofs.YtmmpndijfbbnnaaDoor.Dg
/-- Two different texts of a list have one digest. -/
def Shown (l : List ByteArray) : Prop := ∃ a, a ∈ l ∧ ∃ b, b ∈ l ∧ a ≠ b ∧ sumB a = sumB b
theorem Shown.mono {l m : List ByteArray} (h : Shown l) (hs : ∀ x ∈ l, x ∈ m) : Shown m := by
  obtain ⟨a, ha, b, hb, hne, he⟩ := h
  exact ⟨a, hs a ha, b, hs b hb, hne, he⟩
def jB (l : List ByteArray) : ByteArray := B (joinedL l)
theorem sumB_jB (l : List ByteArray) : sumB (jB l) = listB l := rfl
theorem listB_size (l : List ByteArray) : (listB l).size = 16 := sumB_size (B (joinedL l))
theorem root_size16 (l : List ByteArray) : (root l).size = 16 := by
  match l with
  | [] => rw [root_nil]; exact listB_size _
  | [s] => rw [root_one]; exact listB_size _
  | s :: t :: r => rw [root_more _ (by simp)]; exact listB_size _
def Z : Nat := 1099511627776
theorem leZ {n : Nat} (h : n ≤ 1048576) : n ≤ Z := by unfold Z; omega
theorem mem3' {P : ByteArray → Prop} {a b c : ByteArray} (ha : P a) (hb : P b) (hc : P c) : ∀ s ∈ [a, b, c], P s := by
  intro s hs
  simp only [List.mem_cons, List.not_mem_nil, or_false] at hs
  rcases hs with rfl | rfl | rfl <;> assumption
theorem mem2' {P : ByteArray → Prop} {a b : ByteArray} (ha : P a) (hb : P b) : ∀ s ∈ [a, b], P s := by
  intro s hs
  simp only [List.mem_cons, List.not_mem_nil, or_false] at hs
  rcases hs with rfl | rfl <;> assumption
theorem node_split {T : List ByteArray} (a b c d : ByteArray) (ha : a.size ≤ Z) (hb : b.size ≤ Z) (hc : c.size ≤ Z) (hd : d.size ≤ Z) (h : nodeB a b = nodeB c d) (h1 : jB [sNode, a, b] ∈ T) (h2 : jB [sNode, c, d] ∈ T) : Shown T ∨ (a = c ∧ b = d) := by
  by_cases he : jB [sNode, a, b] = jB [sNode, c, d]
  · have := (joinedL_eq [sNode, a, b] [sNode, c, d] (mem3' (by decide) ha hb) (mem3' (by decide) hc hd)).1 he
    injection this with _ h'
    injection h' with h3 h'
    injection h' with h4 _
    exact Or.inr ⟨h3, h4⟩
  · exact Or.inl ⟨_, h1, _, h2, he, h⟩
theorem leaf_split {T : List ByteArray} (a b : ByteArray) (ha : a.size ≤ Z) (hb : b.size ≤ Z) (h : leafB a = leafB b) (h1 : jB [sLeaf, a] ∈ T) (h2 : jB [sLeaf, b] ∈ T) : Shown T ∨ a = b := by
  by_cases he : jB [sLeaf, a] = jB [sLeaf, b]
  · have := (joinedL_eq [sLeaf, a] [sLeaf, b] (mem2' (by decide) ha) (mem2' (by decide) hb)).1 he
    injection this with _ h'
    injection h' with h3 _
    exact Or.inr h3
  · exact Or.inl ⟨_, h1, _, h2, he, h⟩
/-! The texts that are digested for a root. -/
def textsF : Nat → List ByteArray → List ByteArray
  | 0, _ => [jB [sEmpty]]
  | _ + 1, [] => [jB [sEmpty]]
  | _ + 1, [s] => [jB [sLeaf, s]]
  | f + 1, s :: t :: r => (textsF f ((s :: t :: r).take (half (r.length + 2))) ++ textsF f ((s :: t :: r).drop (half (r.length + 2)))) ++ [jB [sNode, root ((s :: t :: r).take (half (r.length + 2))), root ((s :: t :: r).drop (half (r.length + 2)))]]
def texts (l : List ByteArray) : List ByteArray := textsF l.length l
theorem textsF_eq (f g : Nat) (l : List ByteArray) (hf : l.length ≤ f) (hg : l.length ≤ g) : textsF f l = textsF g l := by
  induction f generalizing g l with
  | zero =>
    obtain rfl : l = [] := by cases l with | nil => rfl | cons a r => simp at hf
    cases g <;> rfl
  | succ f ih =>
    match l, hf, hg with
    | [], _, _ => cases g <;> rfl
    | [s], _, hg =>
      cases g with
      | zero => simp at hg
      | succ g => rfl
    | s :: t :: r, hf, hg =>
      cases g with
      | zero => simp at hg
      | succ g =>
        have h1 := half_pos (r.length + 2)
        have h2 := half_lt (r.length + 2) (by omega)
        simp only [List.length_cons] at hf hg
        rw [textsF, textsF]
        rw [ih g ((s :: t :: r).take (half (r.length + 2))) (by simp only [List.length_take, List.length_cons]; omega) (by simp only [List.length_take, List.length_cons]; omega),
          ih g ((s :: t :: r).drop (half (r.length + 2))) (by simp only [List.length_drop, List.length_cons]; omega) (by simp only [List.length_drop, List.length_cons]; omega)]
theorem texts_nil : texts [] = [jB [sEmpty]] := rfl
theorem texts_one (s : ByteArray) : texts [s] = [jB [sLeaf, s]] := rfl
theorem texts_more (l : List ByteArray) (h : 2 ≤ l.length) : texts l = (texts (l.take (half l.length)) ++ texts (l.drop (half l.length))) ++ [jB [sNode, root (l.take (half l.length)), root (l.drop (half l.length))]] := by
  match l, h with
  | s :: t :: r, h =>
    have h1 := half_pos (r.length + 2)
    have h2 := half_lt (r.length + 2) (by omega)
    show textsF ((r.length + 1) + 1) _ = _
    rw [textsF]
    show _ = (texts ((s :: t :: r).take (half (r.length + 2))) ++ texts ((s :: t :: r).drop (half (r.length + 2)))) ++ _
    unfold texts
    rw [textsF_eq (r.length + 1) _ ((s :: t :: r).take (half (r.length + 2))) (by simp only [List.length_take, List.length_cons]; omega) (Nat.le_refl _),
      textsF_eq (r.length + 1) _ ((s :: t :: r).drop (half (r.length + 2))) (by simp only [List.length_drop, List.length_cons]; omega) (Nat.le_refl _)]
    rfl
theorem texts_node (l : List ByteArray) (h : 2 ≤ l.length) : jB [sNode, root (l.take (half l.length)), root (l.drop (half l.length))] ∈ texts l := by
  rw [texts_more l h]; exact List.mem_append_right _ (List.mem_singleton.2 rfl)
theorem texts_fst (l : List ByteArray) (h : 2 ≤ l.length) : ∀ x ∈ texts (l.take (half l.length)), x ∈ texts l := fun x hx => by
  rw [texts_more l h]; exact List.mem_append_left _ (List.mem_append_left _ hx)
theorem texts_snd (l : List ByteArray) (h : 2 ≤ l.length) : ∀ x ∈ texts (l.drop (half l.length)), x ∈ texts l := fun x hx => by
  rw [texts_more l h]; exact List.mem_append_left _ (List.mem_append_right _ hx)
theorem half_take (l : List ByteArray) (h : 2 ≤ l.length) : (l.take (half l.length)).length = half l.length := by
  have := half_lt l.length h
  rw [List.length_take]; omega
/-! P2.4: equal roots. -/
theorem roots_same (n : Nat) : ∀ a b : List ByteArray, a.length = n → b.length = n → (∀ s ∈ a, s.size ≤ Z) → (∀ s ∈ b, s.size ≤ Z) → root a = root b → a = b ∨ Shown (texts a ++ texts b) := by
  induction n using Nat.strongRecOn with
  | _ n ih =>
  intro a b ha hb hsa hsb h
  by_cases h0 : n = 0
  · obtain rfl : a = [] := List.length_eq_zero_iff.1 (ha.trans h0)
    obtain rfl : b = [] := List.length_eq_zero_iff.1 (hb.trans h0)
    exact Or.inl rfl
  by_cases h1 : n = 1
  · obtain ⟨x, rfl⟩ : ∃ s, a = [s] := List.length_eq_one_iff.1 (ha.trans h1)
    obtain ⟨y, rfl⟩ : ∃ s, b = [s] := List.length_eq_one_iff.1 (hb.trans h1)
    rw [root_one, root_one] at h
    rcases leaf_split (T := texts [x] ++ texts [y]) x y (hsa x (by simp)) (hsb y (by simp)) h (by simp [texts_one]) (by simp [texts_one]) with h2 | h2
    · exact Or.inr h2
    · exact Or.inl (by rw [h2])
  have g1 := half_pos n
  have g2 := half_lt n (by omega)
  have na := texts_node a (by omega)
  have nb := texts_node b (by omega)
  have fa := texts_fst a (by omega)
  have fb := texts_fst b (by omega)
  have sa := texts_snd a (by omega)
  have sb := texts_snd b (by omega)
  rw [root_more a (by omega), root_more b (by omega)] at h
  rw [ha] at h na fa sa
  rw [hb] at h nb fb sb
  have z : ∀ l, (root l).size ≤ Z := fun l => by rw [root_size16]; decide
  rcases node_split (T := texts a ++ texts b) _ _ _ _ (z _) (z _) (z _) (z _) h (List.mem_append_left _ na) (List.mem_append_right _ nb) with h2 | ⟨h2, h3⟩
  · exact Or.inr h2
  · rcases ih (half n) g2 (a.take (half n)) (b.take (half n)) (by rw [List.length_take]; omega) (by rw [List.length_take]; omega) (fun s hs => hsa s (List.mem_of_mem_take hs)) (fun s hs => hsb s (List.mem_of_mem_take hs)) h2 with h4 | h4
    · rcases ih (n - half n) (by omega) (a.drop (half n)) (b.drop (half n)) (by rw [List.length_drop]; omega) (by rw [List.length_drop]; omega) (fun s hs => hsa s (List.mem_of_mem_drop hs)) (fun s hs => hsb s (List.mem_of_mem_drop hs)) h3 with h5 | h5
      · left
        rw [← List.take_append_drop (half n) a, ← List.take_append_drop (half n) b, h4, h5]
      · exact Or.inr (h5.mono fun x hx => by
          rcases List.mem_append.1 hx with hx | hx
          · exact List.mem_append_left _ (sa x hx)
          · exact List.mem_append_right _ (sb x hx))
    · exact Or.inr (h4.mono fun x hx => by
        rcases List.mem_append.1 hx with hx | hx
        · exact List.mem_append_left _ (fa x hx)
        · exact List.mem_append_right _ (fb x hx))
/-! P2.2: the path proves the element. -/
theorem path_len (n : Nat) : ∀ (l : List ByteArray) (i : Nat), l.length = n → i < n → (path l i).length = length n i := by
  induction n using Nat.strongRecOn with
  | _ n ih =>
  intro l i hl hi
  by_cases h1 : n ≤ 1
  · rw [path_short l i (by omega), length_one n i h1]; rfl
  have g1 := half_pos n
  have g2 := half_lt n (by omega)
  by_cases hh : i < half n
  · rw [path_fst l i (by omega) (by rw [hl]; exact hh), length_fst n i (by omega) hh, hl, List.length_append, ih (half n) g2 _ i (by rw [List.length_take]; omega) hh, List.length_singleton]; omega
  · rw [path_snd l i (by omega) (by rw [hl]; exact hh), length_snd n i (by omega) hh, hl, List.length_append, ih (n - half n) (by omega) _ (i - half n) (by rw [List.length_drop]; omega) (by omega), List.length_singleton]; omega
theorem path_up (n : Nat) : ∀ (l : List ByteArray) (i : Nat) (hi : i < l.length), l.length = n → up n i (leafB l[i]) (path l i).reverse = root l := by
  induction n using Nat.strongRecOn with
  | _ n ih =>
  intro l i hi hl
  by_cases h1 : n ≤ 1
  · obtain ⟨x, rfl⟩ : ∃ s, l = [s] := List.length_eq_one_iff.1 (by omega)
    obtain rfl : i = 0 := by simp at hi; omega
    rw [up_one n _ _ _ h1, root_one]; rfl
  have g1 := half_pos n
  have g2 := half_lt n (by omega)
  rw [root_more l (by omega)]
  by_cases hh : i < half n
  · rw [path_fst l i (by omega) (by rw [hl]; exact hh), up_fst n i _ _ (by omega) hh, hl, List.reverse_append]
    have e := ih (half n) g2 (l.take (half n)) i (by rw [List.length_take]; omega) (by rw [List.length_take]; omega)
    rw [List.getElem_take] at e
    refine nodeB_congr e rfl
  · rw [path_snd l i (by omega) (by rw [hl]; exact hh), up_snd n i _ _ (by omega) hh, hl, List.reverse_append]
    have e := ih (n - half n) (by omega) (l.drop (half n)) (i - half n) (by rw [List.length_drop]; omega) (by rw [List.length_drop]; omega)
    rw [List.getElem_drop] at e
    have e2 : half n + (i - half n) = i := by omega
    simp only [e2] at e
    refine nodeB_congr rfl e
theorem path_sizes (n : Nat) : ∀ (l : List ByteArray) (i : Nat), l.length = n → ∀ s ∈ path l i, isB s = true ∧ s.size = 16 := by
  have hr : ∀ l, isB (root l) = true := fun l => by
    match l with
    | [] => rw [root_nil]; exact isB_listB _
    | [s] => rw [root_one]; exact isB_listB _
    | s :: t :: r => rw [root_more _ (by simp)]; exact isB_listB _
  induction n using Nat.strongRecOn with
  | _ n ih =>
  intro l i hl s hs
  by_cases h1 : n ≤ 1
  · rw [path_short l i (by omega)] at hs; simp at hs
  have g1 := half_pos n
  have g2 := half_lt n (by omega)
  by_cases hh : i < half n
  · rw [path_fst l i (by omega) (by rw [hl]; exact hh), hl] at hs
    rcases List.mem_append.1 hs with hs | hs
    · exact ih (half n) g2 _ i (by rw [List.length_take]; omega) s hs
    · rw [List.mem_singleton.1 hs]; exact ⟨hr _, root_size16 _⟩
  · rw [path_snd l i (by omega) (by rw [hl]; exact hh), hl] at hs
    rcases List.mem_append.1 hs with hs | hs
    · exact ih (n - half n) (by omega) _ _ (by rw [List.length_drop]; omega) s hs
    · rw [List.mem_singleton.1 hs]; exact ⟨hr _, root_size16 _⟩
theorem isB_root (l : List ByteArray) : isB (root l) = true := by
  match l with
  | [] => rw [root_nil]; exact isB_listB _
  | [s] => rw [root_one]; exact isB_listB _
  | s :: t :: r => rw [root_more _ (by simp)]; exact isB_listB _
theorem isB_len {s : ByteArray} (h : isB s = true) : s.size = 16 := by
  unfold isB is at h
  rw [Bool.and_eq_true] at h
  have := of_decide_eq_true h.1
  rwa [len_L] at this
/-! P2.3: what a path that proves another string shows. -/
def ptF : Nat → Nat → Nat → ByteArray → List ByteArray → List ByteArray
  | 0, _, _, s, _ => [jB [sLeaf, s]]
  | f + 1, n, i, s, r => if n ≤ 1 then [jB [sLeaf, s]] else if i < half n then ptF f (half n) i s r.tail ++ [jB [sNode, up (half n) i (leafB s) r.tail, r.headD ⟨#[]⟩]]
      else ptF f (n - half n) (i - half n) s r.tail ++ [jB [sNode, r.headD ⟨#[]⟩, up (n - half n) (i - half n) (leafB s) r.tail]]
def pathTexts (n i : Nat) (s : ByteArray) (r : List ByteArray) : List ByteArray := ptF n n i s r
theorem ptF_eq (f g n i : Nat) (s : ByteArray) (r : List ByteArray) (hf : n ≤ f) (hg : n ≤ g) : ptF f n i s r = ptF g n i s r := by
  induction f generalizing g n i r with
  | zero =>
    obtain rfl : n = 0 := by omega
    cases g with
    | zero => rfl
    | succ g => rw [ptF, ptF, if_pos (by omega)]
  | succ f ih =>
    cases g with
    | zero =>
      obtain rfl : n = 0 := by omega
      rw [ptF, ptF, if_pos (by omega)]
    | succ g =>
      rw [ptF, ptF]
      split
      · rfl
      · have h1 := half_pos n
        have h2 := half_lt n (by omega)
        split
        · rw [ih g _ _ _ (by omega) (by omega)]
        · rw [ih g _ _ _ (by omega) (by omega)]
theorem pathTexts_one (n i : Nat) (s : ByteArray) (r : List ByteArray) (h : n ≤ 1) : pathTexts n i s r = [jB [sLeaf, s]] := by
  unfold pathTexts
  cases n with
  | zero => rfl
  | succ n => rw [ptF, if_pos h]
theorem pathTexts_fst (n i : Nat) (s : ByteArray) (r : List ByteArray) (h : 2 ≤ n) (hi : i < half n) : pathTexts n i s r = pathTexts (half n) i s r.tail ++ [jB [sNode, up (half n) i (leafB s) r.tail, r.headD ⟨#[]⟩]] := by
  have h2 := half_lt n h
  unfold pathTexts
  obtain ⟨f, rfl⟩ : ∃ f, n = f + 1 := ⟨n - 1, by omega⟩
  rw [ptF, if_neg (by omega), if_pos hi, ptF_eq f _ _ _ _ _ (by omega) (Nat.le_refl _)]
theorem pathTexts_snd (n i : Nat) (s : ByteArray) (r : List ByteArray) (h : 2 ≤ n) (hi : ¬ i < half n) : pathTexts n i s r = pathTexts (n - half n) (i - half n) s r.tail ++ [jB [sNode, r.headD ⟨#[]⟩, up (n - half n) (i - half n) (leafB s) r.tail]] := by
  have h1 := half_pos n
  unfold pathTexts
  obtain ⟨f, rfl⟩ : ∃ f, n = f + 1 := ⟨n - 1, by omega⟩
  rw [ptF, if_neg (by omega), if_neg hi, ptF_eq f _ _ _ _ _ (by omega) (Nat.le_refl _)]
theorem up_leZ (n : Nat) : ∀ (i : Nat) (d : ByteArray) (r : List ByteArray), d.size ≤ Z → (up n i d r).size ≤ Z := by
  intro i d r hd
  by_cases h1 : n ≤ 1
  · rw [up_one _ _ _ _ h1]; exact hd
  · by_cases hi : i < half n
    · rw [up_fst _ _ _ _ (by omega) hi, nodeB, listB_size]; decide
    · rw [up_snd _ _ _ _ (by omega) hi, nodeB, listB_size]; decide
theorem tail_leZ {r : List ByteArray} (h : ∀ s ∈ r, s.size ≤ Z) : ∀ s ∈ r.tail, s.size ≤ Z := fun s hs => h s (List.mem_of_mem_tail hs)
theorem head_leZ {r : List ByteArray} (h : ∀ s ∈ r, s.size ≤ Z) : (r.headD ⟨#[]⟩).size ≤ Z := by
  cases r with
  | nil => decide
  | cons a r => exact h a (List.mem_cons_self ..)
theorem leaf_leZ (s : ByteArray) : (leafB s).size ≤ Z := by rw [leafB, listB_size]; decide
theorem path_binds (n : Nat) : ∀ (l : List ByteArray) (i : Nat) (s : ByteArray) (r : List ByteArray) (hi : i < l.length), l.length = n → s.size ≤ Z → (∀ s ∈ l, s.size ≤ Z) → (∀ s ∈ r, s.size ≤ Z) → up n i (leafB s) r = root l → s = l[i] ∨ Shown (texts l ++ pathTexts n i s r) := by
  induction n using Nat.strongRecOn with
  | _ n ih =>
  intro l i s r hi hl hs hsl hsr h
  by_cases h1 : n ≤ 1
  · obtain ⟨x, rfl⟩ : ∃ s, l = [s] := List.length_eq_one_iff.1 (by omega)
    obtain rfl : i = 0 := by simp at hi; omega
    rw [up_one n _ _ _ h1, root_one] at h
    rcases leaf_split (T := texts [x] ++ pathTexts n 0 s r) s x hs (hsl x (by simp)) h (by simp [pathTexts_one n _ _ _ h1]) (by simp [texts_one]) with h2 | h2
    · exact Or.inr h2
    · exact Or.inl h2
  have g1 := half_pos n
  have g2 := half_lt n (by omega)
  have na := texts_node l (by omega)
  have fa := texts_fst l (by omega)
  have sa := texts_snd l (by omega)
  rw [root_more l (by omega)] at h
  rw [hl] at h na fa sa
  have z : ∀ l, (root l).size ≤ Z := fun l => by rw [root_size16]; decide
  by_cases hh : i < half n
  · rw [up_fst n i _ _ (by omega) hh] at h
    rw [pathTexts_fst n i _ _ (by omega) hh]
    rcases node_split (T := texts l ++ (pathTexts (half n) i s r.tail ++ [jB [sNode, up (half n) i (leafB s) r.tail, r.headD ⟨#[]⟩]])) _ _ _ _ (up_leZ _ _ _ _ (leaf_leZ s)) (head_leZ hsr) (z _) (z _) h (List.mem_append_right _ (List.mem_append_right _ (List.mem_singleton.2 rfl))) (List.mem_append_left _ na) with h2 | ⟨h2, _⟩
    · exact Or.inr h2
    · rcases ih (half n) g2 (l.take (half n)) i s r.tail (by rw [List.length_take]; omega) (by rw [List.length_take]; omega) hs (fun s hs => hsl s (List.mem_of_mem_take hs)) (tail_leZ hsr) h2 with h3 | h3
      · rw [List.getElem_take] at h3; exact Or.inl h3
      · exact Or.inr (h3.mono fun x hx => by
          rcases List.mem_append.1 hx with hx | hx
          · exact List.mem_append_left _ (fa x hx)
          · exact List.mem_append_right _ (List.mem_append_left _ hx))
  · rw [up_snd n i _ _ (by omega) hh] at h
    rw [pathTexts_snd n i _ _ (by omega) hh]
    rcases node_split (T := texts l ++ (pathTexts (n - half n) (i - half n) s r.tail ++ [jB [sNode, r.headD ⟨#[]⟩, up (n - half n) (i - half n) (leafB s) r.tail]])) _ _ _ _ (head_leZ hsr) (up_leZ _ _ _ _ (leaf_leZ s)) (z _) (z _) h (List.mem_append_right _ (List.mem_append_right _ (List.mem_singleton.2 rfl))) (List.mem_append_left _ na) with h2 | ⟨_, h2⟩
    · exact Or.inr h2
    · rcases ih (n - half n) (by omega) (l.drop (half n)) (i - half n) s r.tail (by rw [List.length_drop]; omega) (by rw [List.length_drop]; omega) hs (fun s hs => hsl s (List.mem_of_mem_drop hs)) (tail_leZ hsr) h2 with h3 | h3
      · rw [List.getElem_drop] at h3
        have e2 : half n + (i - half n) = i := by omega
        simp only [e2] at h3
        exact Or.inl h3
      · exact Or.inr (h3.mono fun x hx => by
          rcases List.mem_append.1 hx with hx | hx
          · exact List.mem_append_left _ (sa x hx)
          · exact List.mem_append_right _ (List.mem_append_left _ hx))
end Go.Proofs.YtmmpndijfbbnnaaDoor.Dg
