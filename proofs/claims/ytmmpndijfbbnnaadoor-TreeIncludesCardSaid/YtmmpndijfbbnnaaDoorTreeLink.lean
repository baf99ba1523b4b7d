/- The laws of links in plain Lean. No program in sight. -/
import Derived.Test.YtmmpndijfbbnnaaDoorTreeLaw
namespace Go.Proofs.YtmmpndijfbbnnaaDoor.Dg
/-! half is a power of two. -/
theorem halfF_pow (f k n e : Nat) (h : k = 2 ^ e) : ∃ e', halfF f k n = 2 ^ e' := by
  induction f generalizing k e with
  | zero => exact ⟨e, h⟩
  | succ f ih =>
    rw [halfF]
    split
    · exact ih (2 * k) (e + 1) (by rw [h, Nat.pow_succ]; omega)
    · exact ⟨e, h⟩
theorem half_pow (n : Nat) : ∃ e, half n = 2 ^ e := halfF_pow _ 1 _ 0 rfl
theorem pow_le_of_lt {a b : Nat} (h : 2 ^ a < 2 * 2 ^ b) : a ≤ b := by
  rcases Nat.lt_or_ge b a with h1 | h1
  · have : 2 ^ (b + 1) ≤ 2 ^ a := Nat.pow_le_pow_right (by omega) h1
    rw [Nat.pow_succ] at this
    omega
  · exact h1
theorem half_mid (n m : Nat) (h1 : half n < m) (h2 : m ≤ n) : half m = half n := by
  obtain ⟨a, ha⟩ := half_pow n
  obtain ⟨b, hb⟩ := half_pow m
  have g1 := half_pos n
  have g2 := half_two n
  have g3 := half_two m
  have g4 := half_lt m (by omega)
  rw [ha] at h1 g2 g1
  rw [hb] at g3 g4
  have e1 : a ≤ b := pow_le_of_lt (by omega)
  have e2 : b ≤ a := pow_le_of_lt (by omega)
  rw [ha, hb, Nat.le_antisymm e2 e1]
/-! The way of a link, from the root. -/
def wayF : Nat → Nat → Nat → List Bool
  | 0, _, _ => []
  | f + 1, n, m => if m = n then [] else if m ≤ half n then true :: wayF f (half n) m else false :: wayF f (n - half n) (m - half n)
def way (n m : Nat) : List Bool := wayF n n m
theorem wayF_eq (f g n m : Nat) (hm : 1 ≤ m) (hmn : m ≤ n) (hf : n ≤ f) (hg : n ≤ g) : wayF f n m = wayF g n m := by
  induction f generalizing g n m with
  | zero => omega
  | succ f ih =>
    cases g with
    | zero => omega
    | succ g =>
      rw [wayF, wayF]
      split
      · rfl
      · have h1 := half_pos n
        have h2 := half_lt n (by omega)
        split
        · rw [ih g _ _ hm (by omega) (by omega) (by omega)]
        · rw [ih g _ _ (by omega) (by omega) (by omega) (by omega)]
theorem way_all (n : Nat) : way n n = [] := by
  unfold way
  cases n with
  | zero => rfl
  | succ n => rw [wayF, if_pos rfl]
theorem way_fst (n m : Nat) (hm : 1 ≤ m) (h : m < n) (hi : m ≤ half n) : way n m = true :: way (half n) m := by
  have h2 := half_lt n (by omega)
  unfold way
  obtain ⟨f, rfl⟩ : ∃ f, n = f + 1 := ⟨n - 1, by omega⟩
  rw [wayF, if_neg (by omega), if_pos hi, wayF_eq f _ _ _ hm hi (by omega) (Nat.le_refl _)]
theorem way_snd (n m : Nat) (h : m < n) (hi : ¬ m ≤ half n) : way n m = false :: way (n - half n) (m - half n) := by
  have h1 := half_pos n
  unfold way
  obtain ⟨f, rfl⟩ : ∃ f, n = f + 1 := ⟨n - 1, by omega⟩
  rw [wayF, if_neg (by omega), if_neg hi, wayF_eq f _ _ _ (by omega) (by omega) (by omega) (Nat.le_refl _)]
def longW : List Bool → Bool → Nat
  | [], whole => if whole then 0 else 1
  | b :: w, whole => 1 + longW w (b && whole)
def long (n m : Nat) (whole : Bool) : Nat := longW (way n m) whole
def bothW : List Bool → Bool → ByteArray → List ByteArray → ByteArray × ByteArray
  | [], whole, old, r => if whole then (old, old) else (r.headD ⟨#[]⟩, r.headD ⟨#[]⟩)
  | true :: w, whole, old, r => ((bothW w whole old r.tail).1, nodeB (bothW w whole old r.tail).2 (r.headD ⟨#[]⟩))
  | false :: w, _, old, r => (nodeB (r.headD ⟨#[]⟩) (bothW w false old r.tail).1, nodeB (r.headD ⟨#[]⟩) (bothW w false old r.tail).2)
def both (n m : Nat) (whole : Bool) (old : ByteArray) (r : List ByteArray) : ByteArray × ByteArray := bothW (way n m) whole old r
def ltW : List Bool → Bool → ByteArray → List ByteArray → List ByteArray
  | [], _, _, _ => []
  | true :: w, whole, old, r => ltW w whole old r.tail ++ [jB [sNode, (bothW w whole old r.tail).2, r.headD ⟨#[]⟩]]
  | false :: w, _, old, r => (ltW w false old r.tail ++ [jB [sNode, r.headD ⟨#[]⟩, (bothW w false old r.tail).1]]) ++ [jB [sNode, r.headD ⟨#[]⟩, (bothW w false old r.tail).2]]
def linkTexts (n m : Nat) (whole : Bool) (old : ByteArray) (r : List ByteArray) : List ByteArray := ltW (way n m) whole old r
theorem long_all (n : Nat) (w : Bool) : long n n w = if w then 0 else 1 := by rw [long, way_all]; rfl
theorem long_fst (n m : Nat) (w : Bool) (hm : 1 ≤ m) (h : m < n) (hi : m ≤ half n) : long n m w = 1 + long (half n) m w := by
  rw [long, way_fst n m hm h hi, longW, Bool.true_and]; rfl
theorem long_snd (n m : Nat) (w : Bool) (h : m < n) (hi : ¬ m ≤ half n) : long n m w = 1 + long (n - half n) (m - half n) false := by
  rw [long, way_snd n m h hi, longW, Bool.false_and]; rfl
theorem both_all (n : Nat) (w : Bool) (old : ByteArray) (r : List ByteArray) : both n n w old r = if w then (old, old) else (r.headD ⟨#[]⟩, r.headD ⟨#[]⟩) := by rw [both, way_all]; rfl
theorem both_fst (n m : Nat) (w : Bool) (old : ByteArray) (r : List ByteArray) (hm : 1 ≤ m) (h : m < n) (hi : m ≤ half n) : both n m w old r = ((both (half n) m w old r.tail).1, nodeB (both (half n) m w old r.tail).2 (r.headD ⟨#[]⟩)) := by
  rw [both, way_fst n m hm h hi]; rfl
theorem both_snd (n m : Nat) (w : Bool) (old : ByteArray) (r : List ByteArray) (h : m < n) (hi : ¬ m ≤ half n) : both n m w old r = (nodeB (r.headD ⟨#[]⟩) (both (n - half n) (m - half n) false old r.tail).1, nodeB (r.headD ⟨#[]⟩) (both (n - half n) (m - half n) false old r.tail).2) := by
  rw [both, way_snd n m h hi]; rfl
theorem lt_all (n : Nat) (w : Bool) (old : ByteArray) (r : List ByteArray) : linkTexts n n w old r = [] := by rw [linkTexts, way_all]; rfl
theorem lt_fst (n m : Nat) (w : Bool) (old : ByteArray) (r : List ByteArray) (hm : 1 ≤ m) (h : m < n) (hi : m ≤ half n) : linkTexts n m w old r = linkTexts (half n) m w old r.tail ++ [jB [sNode, (both (half n) m w old r.tail).2, r.headD ⟨#[]⟩]] := by
  rw [linkTexts, way_fst n m hm h hi]; rfl
theorem lt_snd (n m : Nat) (w : Bool) (old : ByteArray) (r : List ByteArray) (h : m < n) (hi : ¬ m ≤ half n) : linkTexts n m w old r = (linkTexts (n - half n) (m - half n) false old r.tail ++ [jB [sNode, r.headD ⟨#[]⟩, (both (n - half n) (m - half n) false old r.tail).1]]) ++ [jB [sNode, r.headD ⟨#[]⟩, (both (n - half n) (m - half n) false old r.tail).2]] := by
  rw [linkTexts, way_snd n m h hi]; rfl
theorem bothW_leZ (w : List Bool) : ∀ (whole : Bool) (old : ByteArray) (r : List ByteArray), old.size ≤ Z → (∀ s ∈ r, s.size ≤ Z) → (bothW w whole old r).1.size ≤ Z ∧ (bothW w whole old r).2.size ≤ Z := by
  induction w with
  | nil =>
    intro whole old r ho hr
    rw [bothW]
    split
    · exact ⟨ho, ho⟩
    · exact ⟨head_leZ hr, head_leZ hr⟩
  | cons b w ih =>
    intro whole old r ho hr
    have hn : ∀ x y, (nodeB x y).size ≤ Z := fun x y => by rw [nodeB, listB_size]; decide
    cases b with
    | true => exact ⟨(ih _ _ _ ho (tail_leZ hr)).1, hn _ _⟩
    | false => exact ⟨hn _ _, hn _ _⟩
/-! P2.5: the link proves the extension. -/
theorem link_len (n : Nat) : ∀ (l : List ByteArray) (m : Nat) (w : Bool), l.length = n → 1 ≤ m → m ≤ n → (link l m w).length = long n m w := by
  induction n using Nat.strongRecOn with
  | _ n ih =>
  intro l m w hl h1 hm
  by_cases he : m = n
  · subst he
    have := link_all l w
    rw [hl] at this
    rw [this, long_all]
    cases w <;> rfl
  have g1 := half_pos n
  have g2 := half_lt n (by omega)
  by_cases hh : m ≤ half n
  · rw [link_fst l m w h1 (by omega) (by rw [hl]; exact hh), long_fst n m w h1 (by omega) hh, hl, List.length_append, ih (half n) g2 _ m w (by rw [List.length_take]; omega) h1 hh, List.length_singleton]; omega
  · rw [link_snd l m w (by omega) (by rw [hl]; exact hh), long_snd n m w (by omega) hh, hl, List.length_append, ih (n - half n) (by omega) _ (m - half n) false (by rw [List.length_drop]; omega) (by omega) (by omega), List.length_singleton]; omega
theorem root_take (l : List ByteArray) (m : Nat) (h : half l.length < m) (hm : m ≤ l.length) : root (l.take m) = nodeB (root (l.take (half l.length))) (root ((l.drop (half l.length)).take (m - half l.length))) := by
  have g1 := half_pos l.length
  have hlen : (l.take m).length = m := by rw [List.length_take]; omega
  rw [root_more (l.take m) (by omega), hlen, half_mid l.length m h hm, List.take_take, Nat.min_eq_left (by omega), List.drop_take]
theorem link_both (n : Nat) : ∀ (l : List ByteArray) (m : Nat) (w : Bool) (old : ByteArray), l.length = n → 1 ≤ m → m ≤ n → (w = true → old = root (l.take m)) → both n m w old (link l m w).reverse = (root (l.take m), root l) := by
  induction n using Nat.strongRecOn with
  | _ n ih =>
  intro l m w old hl h1 hm ho
  by_cases he : m = n
  · subst he
    have := link_all l w
    rw [hl] at this
    have ht : l.take m = l := List.take_of_length_le (by omega)
    rw [this, both_all, ht]
    rw [ht] at ho
    cases w with
    | true => rw [ho rfl]; rfl
    | false => rfl
  have g1 := half_pos n
  have g2 := half_lt n (by omega)
  rw [root_more l (by omega)]
  by_cases hh : m ≤ half n
  · rw [link_fst l m w h1 (by omega) (by rw [hl]; exact hh), both_fst n m w _ _ h1 (by omega) hh, hl, List.reverse_append]
    have ht : (l.take (half n)).take m = l.take m := by rw [List.take_take, Nat.min_eq_left hh]
    have e := ih (half n) g2 (l.take (half n)) m w old (by rw [List.length_take]; omega) h1 hh (by rw [ht]; exact ho)
    rw [ht] at e
    show ((both (half n) m w old (link (l.take (half n)) m w).reverse).1, nodeB (both (half n) m w old (link (l.take (half n)) m w).reverse).2 (root (l.drop (half n)))) = _
    rw [e]
  · rw [link_snd l m w (by omega) (by rw [hl]; exact hh), both_snd n m w _ _ (by omega) hh, List.reverse_append]
    have e := ih (n - half n) (by omega) (l.drop (half n)) (m - half n) false old (by rw [List.length_drop]; omega) (by omega) (by omega) (fun h => by cases h)
    rw [root_take l m (by rw [hl]; omega) (by omega), hl]
    show (nodeB (root (l.take (half n))) (both (n - half n) (m - half n) false old (link (l.drop (half n)) (m - half n) false).reverse).1, nodeB (root (l.take (half n))) (both (n - half n) (m - half n) false old (link (l.drop (half n)) (m - half n) false).reverse).2) = _
    rw [e]
theorem link_sizes (n : Nat) : ∀ (l : List ByteArray) (m : Nat) (w : Bool), l.length = n → 1 ≤ m → m ≤ n → ∀ s ∈ link l m w, isB s = true ∧ s.size = 16 := by
  induction n using Nat.strongRecOn with
  | _ n ih =>
  intro l m w hl h1 hm s hs
  by_cases he : m = n
  · subst he
    have := link_all l w
    rw [hl] at this
    rw [this] at hs
    cases w with
    | true => simp at hs
    | false => rw [List.mem_singleton.1 hs]; exact ⟨isB_root _, root_size16 _⟩
  have g1 := half_pos n
  have g2 := half_lt n (by omega)
  by_cases hh : m ≤ half n
  · rw [link_fst l m w h1 (by omega) (by rw [hl]; exact hh), hl] at hs
    rcases List.mem_append.1 hs with hs | hs
    · exact ih (half n) g2 _ m w (by rw [List.length_take]; omega) h1 hh s hs
    · rw [List.mem_singleton.1 hs]; exact ⟨isB_root _, root_size16 _⟩
  · rw [link_snd l m w (by omega) (by rw [hl]; exact hh), hl] at hs
    rcases List.mem_append.1 hs with hs | hs
    · exact ih (n - half n) (by omega) _ _ _ (by rw [List.length_drop]; omega) (by omega) (by omega) s hs
    · rw [List.mem_singleton.1 hs]; exact ⟨isB_root _, root_size16 _⟩
/-! P2.6: what a link that proves another beginning shows. -/
theorem link_binds (n : Nat) : ∀ (l : List ByteArray) (m : Nat) (w : Bool) (old : ByteArray) (r : List ByteArray), l.length = n → 1 ≤ m → m ≤ n → old.size ≤ Z → (∀ s ∈ r, s.size ≤ Z) → (both n m w old r).2 = root l →
    (both n m w old r).1 = root (l.take m) ∨ Shown (texts l ++ linkTexts n m w old r) := by
  induction n using Nat.strongRecOn with
  | _ n ih =>
  intro l m w old r hl h1 hm ho hr h
  by_cases he : m = n
  · subst he
    rw [List.take_of_length_le (by omega)]
    left
    rw [both_all] at h ⊢
    cases w <;> exact h
  have g1 := half_pos n
  have g2 := half_lt n (by omega)
  have na := texts_node l (by omega)
  have fa := texts_fst l (by omega)
  have sa := texts_snd l (by omega)
  rw [root_more l (by omega)] at h
  rw [hl] at h na fa sa
  have z : ∀ l, (root l).size ≤ Z := fun l => by rw [root_size16]; decide
  by_cases hh : m ≤ half n
  · rw [both_fst n m w _ _ h1 (by omega) hh] at h ⊢
    rw [lt_fst n m w _ _ h1 (by omega) hh]
    have bz := bothW_leZ (way (half n) m) w old r.tail ho (tail_leZ hr)
    rcases node_split (T := texts l ++ (linkTexts (half n) m w old r.tail ++ [jB [sNode, (both (half n) m w old r.tail).2, r.headD ⟨#[]⟩]])) _ _ _ _ bz.2 (head_leZ hr) (z _) (z _) h (List.mem_append_right _ (List.mem_append_right _ (List.mem_singleton.2 rfl))) (List.mem_append_left _ na) with h2 | ⟨h2, _⟩
    · exact Or.inr h2
    · rcases ih (half n) g2 (l.take (half n)) m w old r.tail (by rw [List.length_take]; omega) h1 hh ho (tail_leZ hr) h2 with h3 | h3
      · left
        rw [h3, List.take_take, Nat.min_eq_left hh]
      · exact Or.inr (h3.mono fun x hx => by
          rcases List.mem_append.1 hx with hx | hx
          · exact List.mem_append_left _ (fa x hx)
          · exact List.mem_append_right _ (List.mem_append_left _ hx))
  · rw [both_snd n m w _ _ (by omega) hh] at h ⊢
    rw [lt_snd n m w _ _ (by omega) hh]
    have bz := bothW_leZ (way (n - half n) (m - half n)) false old r.tail ho (tail_leZ hr)
    rcases node_split (T := texts l ++ ((linkTexts (n - half n) (m - half n) false old r.tail ++ [jB [sNode, r.headD ⟨#[]⟩, (both (n - half n) (m - half n) false old r.tail).1]]) ++ [jB [sNode, r.headD ⟨#[]⟩, (both (n - half n) (m - half n) false old r.tail).2]])) _ _ _ _ (head_leZ hr) bz.2 (z _) (z _) h (List.mem_append_right _ (List.mem_append_right _ (List.mem_singleton.2 rfl))) (List.mem_append_left _ na) with h2 | ⟨h4, h2⟩
    · exact Or.inr h2
    · rcases ih (n - half n) (by omega) (l.drop (half n)) (m - half n) false old r.tail (by rw [List.length_drop]; omega) (by omega) (by omega) ho (tail_leZ hr) h2 with h3 | h3
      · left
        show nodeB (r.headD ⟨#[]⟩) (both (n - half n) (m - half n) false old r.tail).1 = _
        rw [root_take l m (by rw [hl]; omega) (by omega), hl, h3, h4]
      · exact Or.inr (h3.mono fun x hx => by
          rcases List.mem_append.1 hx with hx | hx
          · exact List.mem_append_left _ (sa x hx)
          · exact List.mem_append_right _ (List.mem_append_left _ (List.mem_append_left _ hx)))
theorem continues (a l : List ByteArray) (link : List ByteArray) (h0 : 1 ≤ a.length) (hal : a.length ≤ l.length) (hsa : ∀ s ∈ a, s.size ≤ Z) (hsl : ∀ s ∈ l, s.size ≤ Z) (hr : ∀ s ∈ link, s.size ≤ Z)
    (h1 : (both l.length a.length true (root a) link.reverse).1 = root a) (h2 : (both l.length a.length true (root a) link.reverse).2 = root l) :
    a = l.take a.length ∨ Shown (((texts a ++ texts l) ++ texts (l.take a.length)) ++ linkTexts l.length a.length true (root a) link.reverse) := by
  rcases link_binds l.length l a.length true (root a) link.reverse rfl h0 hal (by rw [root_size16]; decide) (fun s hs => hr s (List.mem_reverse.1 hs)) h2 with h3 | h3
  · rcases roots_same a.length a (l.take a.length) rfl (by rw [List.length_take]; omega) hsa (fun s hs => hsl s (List.mem_of_mem_take hs)) (h1.symm.trans h3) with h4 | h4
    · exact Or.inl h4
    · exact Or.inr (h4.mono fun x hx => by
        rcases List.mem_append.1 hx with hx | hx
        · exact List.mem_append_left _ (List.mem_append_left _ (List.mem_append_left _ hx))
        · exact List.mem_append_left _ (List.mem_append_right _ hx))
  · exact Or.inr (h3.mono fun x hx => by
      rcases List.mem_append.1 hx with hx | hx
      · exact List.mem_append_left _ (List.mem_append_left _ (List.mem_append_right _ hx))
      · exact List.mem_append_right _ hx)
/-! Sizes. -/
def bits : Nat → Nat → Nat
  | 0, _ => 0
  | f + 1, n => if n = 0 then 0 else 1 + bits f (n / 2)
theorem length_small : ∀ n, n ≤ 20 → ∀ i, i < n → length n i ≤ bits 5 n := by decide +kernel
theorem long_small : ∀ n, n ≤ 20 → ∀ m, m ≤ n → 1 ≤ m → long n m true ≤ bits 5 n + 1 := by decide +kernel
theorem length_zero (n i : Nat) (h : 1 ≤ n) : length n i = 0 ↔ n = 1 := by
  constructor
  · intro he
    by_cases h1 : n = 1
    · exact h1
    · by_cases hi : i < half n
      · rw [length_fst n i (by omega) hi] at he; omega
      · rw [length_snd n i (by omega) hi] at he; omega
  · rintro rfl; exact length_one 1 i (Nat.le_refl _)
theorem long_zero (n m : Nat) (h : 1 ≤ m) (hm : m ≤ n) : long n m true = 0 ↔ m = n := by
  constructor
  · intro he
    by_cases h1 : m = n
    · exact h1
    · by_cases hi : m ≤ half n
      · rw [long_fst n m true h (by omega) hi] at he; omega
      · rw [long_snd n m true (by omega) hi] at he; omega
  · rintro rfl; rw [long_all]; rfl
end Go.Proofs.YtmmpndijfbbnnaaDoor.Dg
