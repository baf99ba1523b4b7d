/- Walks and laws of this seat, several texts in one: TreeLink, Check2, Ext, Ext2, RPath, RLink, RCheck, RExt, Texts, OwnM, AppW, App2, OwnL, Code, C1, C2, C3, Code2, C4, C5. No conditions but those that each theorem states. -/
import Derived.Test.YtobhpeockinnjaaGreatDoorHA1
import Derived.Laws.EntriesVeiled
import Derived.Deep.RegionHeld3
import Derived.IntWalk
import Derived.Maps.Own
import Derived.Shelf.GgClosure.StringsRunes
import Derived.Maps.OwnOps
import Derived.Maps.Views
import Derived.ArgAppend
import Derived.StringKeys
/- The laws of links in plain Lean. No program in sight. -/
namespace Go.Proofs.YtobhpeockinnjaaGreatDoor.Dg
/-! half is a power of two. -/
theorem halfF_pow (f k n e : Nat) (h : k = 2 ^ e) : ∃ e', halfF f k n = 2 ^ e' := by
  induction f generalizing k e with
  | zero => exact ⟨e, h⟩
  | succ f ih =>
    rw [halfF]
    split
    · exact ih (2 * k) (e + 1) (by rw [h, Nat.pow_succ]; omega)
    · exact ⟨e, h⟩
theorem half_pow (n : Nat) : ∃ e, half n = 2 ^ e := halfF_pow _ 1 _ 0 rfl
theorem pow_le_of_lt {a b : Nat} (h : 2 ^ a < 2 * 2 ^ b) : a ≤ b := by
  rcases Nat.lt_or_ge b a with h1 | h1
  · have : 2 ^ (b + 1) ≤ 2 ^ a := Nat.pow_le_pow_right (by omega) h1
    rw [Nat.pow_succ] at this
    omega
  · exact h1
theorem half_mid (n m : Nat) (h1 : half n < m) (h2 : m ≤ n) : half m = half n := by
  obtain ⟨a, ha⟩ := half_pow n
  obtain ⟨b, hb⟩ := half_pow m
  have g1 := half_pos n
  have g2 := half_two n
  have g3 := half_two m
  have g4 := half_lt m (by omega)
  rw [ha] at h1 g2 g1
  rw [hb] at g3 g4
  have e1 : a ≤ b := pow_le_of_lt (by omega)
  have e2 : b ≤ a := pow_le_of_lt (by omega)
  rw [ha, hb, Nat.le_antisymm e2 e1]
/-! The way of a link, from the root. -/
def wayF : Nat → Nat → Nat → List Bool
  | 0, _, _ => []
  | f + 1, n, m => if m = n then [] else if m ≤ half n then true :: wayF f (half n) m else false :: wayF f (n - half n) (m - half n)
def way (n m : Nat) : List Bool := wayF n n m
theorem wayF_eq (f g n m : Nat) (hm : 1 ≤ m) (hmn : m ≤ n) (hf : n ≤ f) (hg : n ≤ g) : wayF f n m = wayF g n m := by
  induction f generalizing g n m with
  | zero => omega
  | succ f ih =>
    cases g with
    | zero => omega
    | succ g =>
      rw [wayF, wayF]
      split
      · rfl
      · have h1 := half_pos n
        have h2 := half_lt n (by omega)
        split
        · rw [ih g _ _ hm (by omega) (by omega) (by omega)]
        · rw [ih g _ _ (by omega) (by omega) (by omega) (by omega)]
theorem way_all (n : Nat) : way n n = [] := by
  unfold way
  cases n with
  | zero => rfl
  | succ n => rw [wayF, if_pos rfl]
theorem way_fst (n m : Nat) (hm : 1 ≤ m) (h : m < n) (hi : m ≤ half n) : way n m = true :: way (half n) m := by
  have h2 := half_lt n (by omega)
  unfold way
  obtain ⟨f, rfl⟩ : ∃ f, n = f + 1 := ⟨n - 1, by omega⟩
  rw [wayF, if_neg (by omega), if_pos hi, wayF_eq f _ _ _ hm hi (by omega) (Nat.le_refl _)]
theorem way_snd (n m : Nat) (h : m < n) (hi : ¬ m ≤ half n) : way n m = false :: way (n - half n) (m - half n) := by
  have h1 := half_pos n
  unfold way
  obtain ⟨f, rfl⟩ : ∃ f, n = f + 1 := ⟨n - 1, by omega⟩
  rw [wayF, if_neg (by omega), if_neg hi, wayF_eq f _ _ _ (by omega) (by omega) (by omega) (Nat.le_refl _)]
def longW : List Bool → Bool → Nat
  | [], whole => if whole then 0 else 1
  | b :: w, whole => 1 + longW w (b && whole)
def long (n m : Nat) (whole : Bool) : Nat := longW (way n m) whole
def bothW : List Bool → Bool → ByteArray → List ByteArray → ByteArray × ByteArray
  | [], whole, old, r => if whole then (old, old) else (r.headD ⟨#[]⟩, r.headD ⟨#[]⟩)
  | true :: w, whole, old, r => ((bothW w whole old r.tail).1, nodeB (bothW w whole old r.tail).2 (r.headD ⟨#[]⟩))
  | false :: w, _, old, r => (nodeB (r.headD ⟨#[]⟩) (bothW w false old r.tail).1, nodeB (r.headD ⟨#[]⟩) (bothW w false old r.tail).2)
def both (n m : Nat) (whole : Bool) (old : ByteArray) (r : List ByteArray) : ByteArray × ByteArray := bothW (way n m) whole old r
def ltW : List Bool → Bool → ByteArray → List ByteArray → List ByteArray
  | [], _, _, _ => []
  | true :: w, whole, old, r => ltW w whole old r.tail ++ [jB [sNode, (bothW w whole old r.tail).2, r.headD ⟨#[]⟩]]
  | false :: w, _, old, r => (ltW w false old r.tail ++ [jB [sNode, r.headD ⟨#[]⟩, (bothW w false old r.tail).1]]) ++ [jB [sNode, r.headD ⟨#[]⟩, (bothW w false old r.tail).2]]
def linkTexts (n m : Nat) (whole : Bool) (old : ByteArray) (r : List ByteArray) : List ByteArray := ltW (way n m) whole old r
theorem long_all (n : Nat) (w : Bool) : long n n w = if w then 0 else 1 := by rw [long, way_all]; rfl
theorem long_fst (n m : Nat) (w : Bool) (hm : 1 ≤ m) (h : m < n) (hi : m ≤ half n) : long n m w = 1 + long (half n) m w := by
  rw [long, way_fst n m hm h hi, longW, Bool.true_and]; rfl
theorem long_snd (n m : Nat) (w : Bool) (h : m < n) (hi : ¬ m ≤ half n) : long n m w = 1 + long (n - half n) (m - half n) false := by
  rw [long, way_snd n m h hi, longW, Bool.false_and]; rfl
theorem both_all (n : Nat) (w : Bool) (old : ByteArray) (r : List ByteArray) : both n n w old r = if w then (old, old) else (r.headD ⟨#[]⟩, r.headD ⟨#[]⟩) := by rw [both, way_all]; rfl
theorem both_fst (n m : Nat) (w : Bool) (old : ByteArray) (r : List ByteArray) (hm : 1 ≤ m) (h : m < n) (hi : m ≤ half n) : both n m w old r = ((both (half n) m w old r.tail).1, nodeB (both (half n) m w old r.tail).2 (r.headD ⟨#[]⟩)) := by
  rw [both, way_fst n m hm h hi]; rfl
theorem both_snd (n m : Nat) (w : Bool) (old : ByteArray) (r : List ByteArray) (h : m < n) (hi : ¬ m ≤ half n) : both n m w old r = (nodeB (r.headD ⟨#[]⟩) (both (n - half n) (m - half n) false old r.tail).1, nodeB (r.headD ⟨#[]⟩) (both (n - half n) (m - half n) false old r.tail).2) := by
  rw [both, way_snd n m h hi]; rfl
theorem lt_all (n : Nat) (w : Bool) (old : ByteArray) (r : List ByteArray) : linkTexts n n w old r = [] := by rw [linkTexts, way_all]; rfl
theorem lt_fst (n m : Nat) (w : Bool) (old : ByteArray) (r : List ByteArray) (hm : 1 ≤ m) (h : m < n) (hi : m ≤ half n) : linkTexts n m w old r = linkTexts (half n) m w old r.tail ++ [jB [sNode, (both (half n) m w old r.tail).2, r.headD ⟨#[]⟩]] := by
  rw [linkTexts, way_fst n m hm h hi]; rfl
theorem lt_snd (n m : Nat) (w : Bool) (old : ByteArray) (r : List ByteArray) (h : m < n) (hi : ¬ m ≤ half n) : linkTexts n m w old r = (linkTexts (n - half n) (m - half n) false old r.tail ++ [jB [sNode, r.headD ⟨#[]⟩, (both (n - half n) (m - half n) false old r.tail).1]]) ++ [jB [sNode, r.headD ⟨#[]⟩, (both (n - half n) (m - half n) false old r.tail).2]] := by
  rw [linkTexts, way_snd n m h hi]; rfl
theorem bothW_leZ (w : List Bool) : ∀ (whole : Bool) (old : ByteArray) (r : List ByteArray), old.size ≤ Z → (∀ s ∈ r, s.size ≤ Z) → (bothW w whole old r).1.size ≤ Z ∧ (bothW w whole old r).2.size ≤ Z := by
  induction w with
  | nil =>
    intro whole old r ho hr
    rw [bothW]
    split
    · exact ⟨ho, ho⟩
    · exact ⟨head_leZ hr, head_leZ hr⟩
  | cons b w ih =>
    intro whole old r ho hr
    have hn : ∀ x y, (nodeB x y).size ≤ Z := fun x y => by rw [nodeB, listB_size]; decide
    cases b with
    | true => exact ⟨(ih _ _ _ ho (tail_leZ hr)).1, hn _ _⟩
    | false => exact ⟨hn _ _, hn _ _⟩
/-! P2.5: the link proves the extension. -/
theorem link_len (n : Nat) : ∀ (l : List ByteArray) (m : Nat) (w : Bool), l.length = n → 1 ≤ m → m ≤ n → (link l m w).length = long n m w := by
  induction n using Nat.strongRecOn with
  | _ n ih =>
  intro l m w hl h1 hm
  by_cases he : m = n
  · subst he
    have := link_all l w
    rw [hl] at this
    rw [this, long_all]
    cases w <;> rfl
  have g1 := half_pos n
  have g2 := half_lt n (by omega)
  by_cases hh : m ≤ half n
  · rw [link_fst l m w h1 (by omega) (by rw [hl]; exact hh), long_fst n m w h1 (by omega) hh, hl, List.length_append, ih (half n) g2 _ m w (by rw [List.length_take]; omega) h1 hh, List.length_singleton]; omega
  · rw [link_snd l m w (by omega) (by rw [hl]; exact hh), long_snd n m w (by omega) hh, hl, List.length_append, ih (n - half n) (by omega) _ (m - half n) false (by rw [List.length_drop]; omega) (by omega) (by omega), List.length_singleton]; omega
theorem root_take (l : List ByteArray) (m : Nat) (h : half l.length < m) (hm : m ≤ l.length) : root (l.take m) = nodeB (root (l.take (half l.length))) (root ((l.drop (half l.length)).take (m - half l.length))) := by
  have g1 := half_pos l.length
  have hlen : (l.take m).length = m := by rw [List.length_take]; omega
  rw [root_more (l.take m) (by omega), hlen, half_mid l.length m h hm, List.take_take, Nat.min_eq_left (by omega), List.drop_take]
theorem link_both (n : Nat) : ∀ (l : List ByteArray) (m : Nat) (w : Bool) (old : ByteArray), l.length = n → 1 ≤ m → m ≤ n → (w = true → old = root (l.take m)) → both n m w old (link l m w).reverse = (root (l.take m), root l) := by
  induction n using Nat.strongRecOn with
  | _ n ih =>
  intro l m w old hl h1 hm ho
  by_cases he : m = n
  · subst he
    have := link_all l w
    rw [hl] at this
    have ht : l.take m = l := List.take_of_length_le (by omega)
    rw [this, both_all, ht]
    rw [ht] at ho
    cases w with
    | true => rw [ho rfl]; rfl
    | false => rfl
  have g1 := half_pos n
  have g2 := half_lt n (by omega)
  rw [root_more l (by omega)]
  by_cases hh : m ≤ half n
  · rw [link_fst l m w h1 (by omega) (by rw [hl]; exact hh), both_fst n m w _ _ h1 (by omega) hh, hl, List.reverse_append]
    have ht : (l.take (half n)).take m = l.take m := by rw [List.take_take, Nat.min_eq_left hh]
    have e := ih (half n) g2 (l.take (half n)) m w old (by rw [List.length_take]; omega) h1 hh (by rw [ht]; exact ho)
    rw [ht] at e
    show ((both (half n) m w old (link (l.take (half n)) m w).reverse).1, nodeB (both (half n) m w old (link (l.take (half n)) m w).reverse).2 (root (l.drop (half n)))) = _
    rw [e]
  · rw [link_snd l m w (by omega) (by rw [hl]; exact hh), both_snd n m w _ _ (by omega) hh, List.reverse_append]
    have e := ih (n - half n) (by omega) (l.drop (half n)) (m - half n) false old (by rw [List.length_drop]; omega) (by omega) (by omega) (fun h => by cases h)
    rw [root_take l m (by rw [hl]; omega) (by omega), hl]
    show (nodeB (root (l.take (half n))) (both (n - half n) (m - half n) false old (link (l.drop (half n)) (m - half n) false).reverse).1, nodeB (root (l.take (half n))) (both (n - half n) (m - half n) false old (link (l.drop (half n)) (m - half n) false).reverse).2) = _
    rw [e]
theorem link_sizes (n : Nat) : ∀ (l : List ByteArray) (m : Nat) (w : Bool), l.length = n → 1 ≤ m → m ≤ n → ∀ s ∈ link l m w, isB s = true ∧ s.size = 16 := by
  induction n using Nat.strongRecOn with
  | _ n ih =>
  intro l m w hl h1 hm s hs
  by_cases he : m = n
  · subst he
    have := link_all l w
    rw [hl] at this
    rw [this] at hs
    cases w with
    | true => simp at hs
    | false => rw [List.mem_singleton.1 hs]; exact ⟨isB_root _, root_size16 _⟩
  have g1 := half_pos n
  have g2 := half_lt n (by omega)
  by_cases hh : m ≤ half n
  · rw [link_fst l m w h1 (by omega) (by rw [hl]; exact hh), hl] at hs
    rcases List.mem_append.1 hs with hs | hs
    · exact ih (half n) g2 _ m w (by rw [List.length_take]; omega) h1 hh s hs
    · rw [List.mem_singleton.1 hs]; exact ⟨isB_root _, root_size16 _⟩
  · rw [link_snd l m w (by omega) (by rw [hl]; exact hh), hl] at hs
    rcases List.mem_append.1 hs with hs | hs
    · exact ih (n - half n) (by omega) _ _ _ (by rw [List.length_drop]; omega) (by omega) (by omega) s hs
    · rw [List.mem_singleton.1 hs]; exact ⟨isB_root _, root_size16 _⟩
/-! P2.6: what a link that proves another beginning shows. -/
theorem link_binds (n : Nat) : ∀ (l : List ByteArray) (m : Nat) (w : Bool) (old : ByteArray) (r : List ByteArray), l.length = n → 1 ≤ m → m ≤ n → old.size ≤ Z → (∀ s ∈ r, s.size ≤ Z) → (both n m w old r).2 = root l →
    (both n m w old r).1 = root (l.take m) ∨ Shown (texts l ++ linkTexts n m w old r) := by
  induction n using Nat.strongRecOn with
  | _ n ih =>
  intro l m w old r hl h1 hm ho hr h
  by_cases he : m = n
  · subst he
    rw [List.take_of_length_le (by omega)]
    left
    rw [both_all] at h ⊢
    cases w <;> exact h
  have g1 := half_pos n
  have g2 := half_lt n (by omega)
  have na := texts_node l (by omega)
  have fa := texts_fst l (by omega)
  have sa := texts_snd l (by omega)
  rw [root_more l (by omega)] at h
  rw [hl] at h na fa sa
  have z : ∀ l, (root l).size ≤ Z := fun l => by rw [root_size16]; decide
  by_cases hh : m ≤ half n
  · rw [both_fst n m w _ _ h1 (by omega) hh] at h ⊢
    rw [lt_fst n m w _ _ h1 (by omega) hh]
    have bz := bothW_leZ (way (half n) m) w old r.tail ho (tail_leZ hr)
    rcases node_split (T := texts l ++ (linkTexts (half n) m w old r.tail ++ [jB [sNode, (both (half n) m w old r.tail).2, r.headD ⟨#[]⟩]])) _ _ _ _ bz.2 (head_leZ hr) (z _) (z _) h (List.mem_append_right _ (List.mem_append_right _ (List.mem_singleton.2 rfl))) (List.mem_append_left _ na) with h2 | ⟨h2, _⟩
    · exact Or.inr h2
    · rcases ih (half n) g2 (l.take (half n)) m w old r.tail (by rw [List.length_take]; omega) h1 hh ho (tail_leZ hr) h2 with h3 | h3
      · left
        rw [h3, List.take_take, Nat.min_eq_left hh]
      · exact Or.inr (h3.mono fun x hx => by
          rcases List.mem_append.1 hx with hx | hx
          · exact List.mem_append_left _ (fa x hx)
          · exact List.mem_append_right _ (List.mem_append_left _ hx))
  · rw [both_snd n m w _ _ (by omega) hh] at h ⊢
    rw [lt_snd n m w _ _ (by omega) hh]
    have bz := bothW_leZ (way (n - half n) (m - half n)) false old r.tail ho (tail_leZ hr)
    rcases node_split (T := texts l ++ ((linkTexts (n - half n) (m - half n) false old r.tail ++ [jB [sNode, r.headD ⟨#[]⟩, (both (n - half n) (m - half n) false old r.tail).1]]) ++ [jB [sNode, r.headD ⟨#[]⟩, (both (n - half n) (m - half n) false old r.tail).2]])) _ _ _ _ (head_leZ hr) bz.2 (z _) (z _) h (List.mem_append_right _ (List.mem_append_right _ (List.mem_singleton.2 rfl))) (List.mem_append_left _ na) with h2 | ⟨h4, h2⟩
    · exact Or.inr h2
    · rcases ih (n - half n) (by omega) (l.drop (half n)) (m - half n) false old r.tail (by rw [List.length_drop]; omega) (by omega) (by omega) ho (tail_leZ hr) h2 with h3 | h3
      · left
        show nodeB (r.headD ⟨#[]⟩) (both (n - half n) (m - half n) false old r.tail).1 = _
        rw [root_take l m (by rw [hl]; omega) (by omega), hl, h3, h4]
      · exact Or.inr (h3.mono fun x hx => by
          rcases List.mem_append.1 hx with hx | hx
          · exact List.mem_append_left _ (sa x hx)
          · exact List.mem_append_right _ (List.mem_append_left _ (List.mem_append_left _ hx)))
theorem continues (a l : List ByteArray) (link : List ByteArray) (h0 : 1 ≤ a.length) (hal : a.length ≤ l.length) (hsa : ∀ s ∈ a, s.size ≤ Z) (hsl : ∀ s ∈ l, s.size ≤ Z) (hr : ∀ s ∈ link, s.size ≤ Z)
    (h1 : (both l.length a.length true (root a) link.reverse).1 = root a) (h2 : (both l.length a.length true (root a) link.reverse).2 = root l) :
    a = l.take a.length ∨ Shown (((texts a ++ texts l) ++ texts (l.take a.length)) ++ linkTexts l.length a.length true (root a) link.reverse) := by
  rcases link_binds l.length l a.length true (root a) link.reverse rfl h0 hal (by rw [root_size16]; decide) (fun s hs => hr s (List.mem_reverse.1 hs)) h2 with h3 | h3
  · rcases roots_same a.length a (l.take a.length) rfl (by rw [List.length_take]; omega) hsa (fun s hs => hsl s (List.mem_of_mem_take hs)) (h1.symm.trans h3) with h4 | h4
    · exact Or.inl h4
    · exact Or.inr (h4.mono fun x hx => by
        rcases List.mem_append.1 hx with hx | hx
        · exact List.mem_append_left _ (List.mem_append_left _ (List.mem_append_left _ hx))
        · exact List.mem_append_left _ (List.mem_append_right _ hx))
  · exact Or.inr (h3.mono fun x hx => by
      rcases List.mem_append.1 hx with hx | hx
      · exact List.mem_append_left _ (List.mem_append_left _ (List.mem_append_right _ hx))
      · exact List.mem_append_right _ hx)
/-! Sizes. -/
def bits : Nat → Nat → Nat
  | 0, _ => 0
  | f + 1, n => if n = 0 then 0 else 1 + bits f (n / 2)
theorem length_small : ∀ n, n ≤ 20 → ∀ i, i < n → length n i ≤ bits 5 n := by decide +kernel
theorem long_small : ∀ n, n ≤ 20 → ∀ m, m ≤ n → 1 ≤ m → long n m true ≤ bits 5 n + 1 := by decide +kernel
theorem length_zero (n i : Nat) (h : 1 ≤ n) : length n i = 0 ↔ n = 1 := by
  constructor
  · intro he
    by_cases h1 : n = 1
    · exact h1
    · by_cases hi : i < half n
      · rw [length_fst n i (by omega) hi] at he; omega
      · rw [length_snd n i (by omega) hi] at he; omega
  · rintro rfl; exact length_one 1 i (Nat.le_refl _)
theorem long_zero (n m : Nat) (h : 1 ≤ m) (hm : m ≤ n) : long n m true = 0 ↔ m = n := by
  constructor
  · intro he
    by_cases h1 : m = n
    · exact h1
    · by_cases hi : m ≤ half n
      · rw [long_fst n m true h (by omega) hi] at he; omega
      · rw [long_snd n m true (by omega) hi] at he; omega
  · rintro rfl; rw [long_all]; rfl
end Go.Proofs.YtobhpeockinnjaaGreatDoor.Dg
/- Check of package tree. -/
namespace Go.Proofs.YtobhpeockinnjaaGreatDoor
open Go Go.RowKit Go.Sort
/-- What Check answers. -/
def checkB (root : ByteArray) (n i : Int) (s : ByteArray) (p : List ByteArray) : Bool :=
  decide (n ≤ 1000000 ∧ 0 ≤ i ∧ i < n) && (allDig p && (decide (p.length = Dg.length n.toNat i.toNat) && decide (Dg.up n.toNat i.toNat (Dg.leafB s) p.reverse = root)))
theorem allDig_mem {p : List ByteArray} (h : allDig p = true) : ∀ s ∈ p, Dg.isB s = true := fun s hs => by unfold allDig at h; exact List.all_eq_true.1 h s hs
theorem allDig_16 {p : List ByteArray} (h : allDig p = true) : ∀ s ∈ p, s.size = 16 := fun s hs => Dg.isB_len (allDig_mem h s hs)
/-- The blocks that Check and Extends lay before they call their closures. -/
theorem setup (w : World) (g : Nat) (T1 T2 T3 : TypeId) (B bl bf c n : Nat) (A : Option Addr) (v : Value) (h1 : w.cell? ⟨bl, 0, none⟩ = some (.slice A n c)) (h2 : w.frozen? ⟨bl, 0, none⟩ = false) (h3 : w.cell? ⟨bf, 0, none⟩ = some v)
    (hbl : bl < w.heap.size) (hbf : bf < w.heap.size) (hne : bf ≠ bl) (hB : B ≤ bl) (hg : 0 < B) (N1 N2 : Nat) (hN1 : N1 = w.heap.size + 1) (hN2 : N2 = w.heap.size + 1 + 1) (W : World)
    (hW : W = ((w.alloc (.cells #[.pointer (some ⟨bl, 0, none⟩), .bool false] T1)).alloc (.cells #[.pointer (some ⟨w.heap.size, 0, none⟩)] T2)).alloc (.cells #[.func (.func g) #[] #[.pointer (some ⟨bf, 0, none⟩), .pointer (some ⟨N1, 0, none⟩), .pointer (some ⟨N2, 0, none⟩)]] T3)) :
    PSt W bl w.heap.size A c n false ∧ CEnv W g bf N1 N2 w.heap.size v ∧ Blk W B bl w.heap.size bf N1 N2 ∧ Below w.heap.size w W := by
  subst hW hN1 hN2
  generalize ho1 : Obj.cells #[.pointer (some ⟨bl, 0, none⟩), .bool false] T1 = o1
  generalize ho2 : Obj.cells #[.pointer (some ⟨w.heap.size, 0, none⟩)] T2 = o2
  generalize ho3 : Obj.cells #[.func (.func g) #[] #[.pointer (some ⟨bf, 0, none⟩), .pointer (some ⟨w.heap.size + 1, 0, none⟩), .pointer (some ⟨w.heap.size + 1 + 1, 0, none⟩)]] T3 = o3
  have s1 : (w.alloc o1).heap.size = w.heap.size + 1 := by simp
  have s2 : ((w.alloc o1).alloc o2).heap.size = w.heap.size + 1 + 1 := by simp
  have s3 : (((w.alloc o1).alloc o2).alloc o3).heap.size = w.heap.size + 1 + 1 + 1 := by simp
  have b0 : Below w.heap.size w (((w.alloc o1).alloc o2).alloc o3) := (((Below.refl _ _).alloc (Nat.le_refl _) _).alloc (by omega) _).alloc (by omega) _
  have b1 : Below (w.alloc o1).heap.size (w.alloc o1) (((w.alloc o1).alloc o2).alloc o3) := ((Below.refl _ _).alloc (Nat.le_refl _) _).alloc (by omega) _
  have b2 : Below ((w.alloc o1).alloc o2).heap.size ((w.alloc o1).alloc o2) (((w.alloc o1).alloc o2).alloc o3) := (Below.refl _ _).alloc (Nat.le_refl _) _
  have n1 : (w.alloc o1).heap[w.heap.size]? = some o1 := heap_alloc_new w o1
  have n2 : ((w.alloc o1).alloc o2).heap[w.heap.size + 1]? = some o2 := by have := heap_alloc_new (w.alloc o1) o2; rwa [s1] at this
  have n3 : (((w.alloc o1).alloc o2).alloc o3).heap[w.heap.size + 1 + 1]? = some o3 := by have := heap_alloc_new ((w.alloc o1).alloc o2) o3; rwa [s2] at this
  subst ho1 ho2 ho3
  refine ⟨⟨?_, ?_, ?_, ?_, ?_⟩, ⟨?_, ?_, ?_⟩, ⟨hg, hB, by omega, by omega, hne, by omega, by omega, by omega, by omega, by omega, by omega, by omega, by omega, by omega, by omega⟩, b0⟩
  · exact (b0.cell (p := ⟨bl, 0, none⟩) hbl).trans h1
  · exact (b0.frozen (p := ⟨bl, 0, none⟩) hbl).trans h2
  · rw [b1.cell (p := ⟨w.heap.size, 0, none⟩) (by show w.heap.size < _; omega), cell_of_row _ _ _ _ _ (0, 0) n1]; rfl
  · rw [b1.cell (p := ⟨w.heap.size, 1, none⟩) (by show w.heap.size < _; omega), cell_of_row _ _ _ _ _ (0, 0) n1]; rfl
  · rw [b1.frozen (p := ⟨w.heap.size, 1, none⟩) (by show w.heap.size < _; omega)]; exact frozen_of_row _ _ _ _ _ n1
  · exact (b0.cell (p := ⟨bf, 0, none⟩) hbf).trans h3
  · rw [b2.cell (p := ⟨w.heap.size + 1, 0, none⟩) (by show w.heap.size + 1 < _; omega), cell_of_row _ _ _ _ _ (0, 0) n2]; rfl
  · rw [cell_of_row _ _ _ _ _ (0, 0) n3]; rfl
theorem used_all (a b : Nat) : (!(false || decide (a < b)) && decide (a - b = 0)) = decide (a = b) := by
  rw [Bool.false_or, Bool.eq_iff_iff]
  simp only [Bool.and_eq_true, Bool.not_eq_true', decide_eq_false_iff_not, decide_eq_true_eq]
  omega
set_option maxHeartbeats 1000000 in
theorem check_of (root : ByteArray) (n i : Int) (leaf : ByteArray) (A : Option Addr) (c k : Nat) (p : List ByteArray) (R : Bool) (hR : checkB root n i leaf p = R) (w : World) (he : Env w) (hk : p.length = k) (hk2 : k ≤ 1048576) (hps : ∀ s ∈ p, s.size ≤ 1073741824) (hleaf : leaf.size ≤ 1073741824) (hS : Strs w w.heap.size A p) :
    Calls Tryz.prog 49 #[.string root, .int .i64 n, .int .i64 i, .string leaf, .slice A k c] w fun e w' => e = .returned (.bool R) ∧ Below w.heap.size w w' := by
  have HR := hide hR; clear hR
  have HPS := hide hps; clear hps
  go_enter Tryz.func49, Tryz.ntmps49
  have hS1 : Strs (w.alloc (.cells #[.string leaf] 9)) (w.alloc (.cells #[.string leaf] 9)).heap.size A p := keepS hS ((Below.refl _ _).alloc (Nat.le_refl _) _)
  go_wp2_with fail
  refine (clone_any A k c p _ hk (by omega) hS1).mono ?_
  rintro e w2 ⟨v', rfl, ho, hb2⟩
  obtain ⟨A1, c1, rfl, hc1, hS2⟩ := ho.strs
  subst hk
  have hbf : w2.cell? ⟨w.heap.size, 0, none⟩ = some (.string leaf) := by
    rw [hb2.cell (p := ⟨w.heap.size, 0, none⟩) (by simp), cell_of_row _ _ _ _ _ (0, 0) (heap_alloc_new w _)]; rfl
  have hsz : w.heap.size < w2.heap.size := by have := hb2.size; simp at this; omega
  have hB := ((Below.refl _ w).alloc (Nat.le_refl _) (.cells #[.string leaf] 9)).trans (hb2.mono (by simp))
  clear ho hS1 hS hb2
  by_cases q1 : 1000000 < n
  · have q : checkB root n i leaf p = false := by unfold checkB; rw [decide_eq_false (by omega), Bool.false_and]
    have := q.symm.trans HR.out
    subst this
    go_wp2
    go_ret
    exact ⟨rfl, hB.alloc (by omega) _⟩
  by_cases q2 : i < 0
  · have q : checkB root n i leaf p = false := by unfold checkB; rw [decide_eq_false (by omega), Bool.false_and]
    have := q.symm.trans HR.out
    subst this
    go_wp2
    go_ret
    exact ⟨rfl, hB.alloc (by omega) _⟩
  by_cases q3 : n ≤ i
  · have q : checkB root n i leaf p = false := by unfold checkB; rw [decide_eq_false (by omega), Bool.false_and]
    have := q.symm.trans HR.out
    subst this
    go_wp2
    go_ret
    exact ⟨rfl, hB.alloc (by omega) _⟩
  obtain ⟨I, rfl⟩ : ∃ I : Nat, i = I := ⟨i.toNat, by omega⟩
  obtain ⟨N, rfl⟩ : ∃ N : Nat, n = N := ⟨n.toNat, by omega⟩
  have q4 : decide ((N : Int) ≤ 1000000 ∧ (0 : Int) ≤ I ∧ (I : Int) < N) = true := decide_eq_true (by omega)
  have hG := (he.next hB).lt
  have hE2 := he.next hB
  have o1 : N ≤ 1000000 := by omega
  have o2 : I < N := by omega
  clear q1 q2 q3
  go_wp2_with fail
  cases hd : allDig p with
  | false =>
    have q : checkB root N I leaf p = false := by unfold checkB; rw [hd, Bool.false_and, Bool.and_false]
    have := q.symm.trans HR.out
    subst this
    refine (proper_any A1 c1 p.length p false hd _ rfl (by omega) (fun s hs => by have := HPS.out s hs; omega) (keepS hS2 ((Below.refl _ _).alloc (Nat.le_refl _) _))).mono ?_
    rintro e w3 ⟨rfl, hb3⟩
    clear hd
    go_wp2
    go_ret
    exact ⟨rfl, bnextA hB hb3⟩
  | true =>
    refine (proper_any A1 c1 p.length p true hd _ rfl (by omega) (fun s hs => by have := HPS.out s hs; omega) (keepS hS2 ((Below.refl _ _).alloc (Nat.le_refl _) _))).mono ?_
    rintro e w3 ⟨rfl, hb3⟩
    have q : checkB root N I leaf p = (decide (p.length = Dg.length N I) && decide (Dg.up N I (Dg.leafB leaf) p.reverse = root)) := by
      unfold checkB; rw [hd, q4, Bool.true_and, Bool.true_and, Int.toNat_natCast, Int.toNat_natCast]
    have HR2 := hide (q.symm.trans HR.out); clear q q4
    have h16 := hide (allDig_16 hd); clear hd
    have hb32 : Below w2.heap.size w2 w3 := bnextA (Below.refl _ _) hb3
    have hsz3 := hb3.size
    simp only [World.size_alloc] at hsz3
    have x1 : w3.cell? ⟨w2.heap.size, 0, none⟩ = some (.slice A1 p.length c1) := by
      rw [hb3.cell (p := ⟨w2.heap.size, 0, none⟩) (by simp), cell_of_row _ _ _ _ _ (0, 0) (heap_alloc_new w2 _)]; rfl
    have x2 : w3.frozen? ⟨w2.heap.size, 0, none⟩ = false := by
      rw [hb3.frozen (p := ⟨w2.heap.size, 0, none⟩) (by simp)]; exact frozen_of_row _ _ _ _ _ (heap_alloc_new w2 _)
    have x3 : w3.cell? ⟨w.heap.size, 0, none⟩ = some (.string leaf) := (hb32.cell (p := ⟨w.heap.size, 0, none⟩) hsz).trans hbf
    obtain ⟨y1, y2, y3, y4⟩ := setup w3 89 122 119 123 w2.heap.size w2.heap.size w.heap.size c1 p.length A1 (.string leaf) x1 x2 x3 (by omega) (by omega) (by omega) (Nat.le_refl _) hG (w3.heap.size + 1) (w3.heap.size + 1 + 1) rfl rfl _ rfl
    have hB3 := hB.trans (hb32.mono hB.size)
    have hE3 := (hE2.next hb32).next y4
    have hS3 := (hS2.below hb32).below (y4.mono hb32.size)
    have Y1 := hide y1; have Y2 := hide y2; have Y3 := hide y3; have HS3 := hide hS3; have HE3 := hide hE3; have Y4 := hide y4
    clear y1 y2 y3 hS3 hE3 y4 x1 x2 x3 hbf hb3 hE2 hS2
    have hup := hide (fun (W : World) (a1 : Env W) (a2 : Blk W w2.heap.size w2.heap.size w3.heap.size w.heap.size (w3.heap.size + 1) (w3.heap.size + 1 + 1)) a3 a4 a5 => up_any w2.heap.size w2.heap.size w3.heap.size w.heap.size (w3.heap.size + 1) (w3.heap.size + 1 + 1) c1 A1 leaf p h16.out hc1 (by omega) hleaf N I p.length _ false _ _ W (by omega) o1 o2 (Nat.le_refl _) rfl rfl rfl a1 a2 a3 a4 a5)
    have hl := length_le N I
    rw [List.take_length] at hup
    go_wp2_with fail
    refine (hup.out _ HE3.out Y3.out Y1.out Y2.out HS3.out).mono ?_
    rintro e w4 ⟨rfl, hq, hm⟩
    have hB4 := (hB3.trans (Y4.out.mono hB3.size)).trans (hm.toBelow (by omega) (by omega) (by simp; omega))
    have hdone := hide (fun R hR => done_any w2.heap.size w3.heap.size A1 c1 (p.length - Dg.length N I) (false || decide (p.length < Dg.length N I)) R w4 hq (by omega) hR)
    have hcP := (Y2.out.mut Y3.out hm).P
    generalize hX : Dg.up N I (Dg.leafB leaf) p.reverse = X at *
    clear hX hup hq hm
    by_cases hx : X = root
    · have HH := HR2.out
      rw [decide_eq_true hx, Bool.and_true] at HH
      have t1 := tl_true hx
      have HH := hide HH
      subst hx
      go_wp2_with fail
      refine (hdone.out R ((used_all _ _).trans HH.out)).mono ?_
      rintro e w5 ⟨rfl, rfl⟩
      go_wp2
      go_ret
      exact ⟨rfl, hB4⟩
    · have HH := HR2.out
      rw [decide_eq_false hx, Bool.and_false] at HH
      subst HH
      have t1 := tl_false hx
      clear hx
      go_wp2
      go_ret
      exact ⟨rfl, hB4⟩
end Go.Proofs.YtobhpeockinnjaaGreatDoor
/- The closure of Extends of package tree. -/
namespace Go.Proofs.YtobhpeockinnjaaGreatDoor
open Go Go.RowKit Go.Sort
theorem long_le (n : Nat) : ∀ (m : Nat) (w : Bool), 1 ≤ m → m ≤ n → Dg.long n m w ≤ n := by
  induction n using Nat.strongRecOn with
  | _ n ih =>
  intro m w h1 hm
  by_cases he : m = n
  · subst he; rw [Dg.long_all]; split <;> omega
  · have g1 := Dg.half_pos n
    have g2 := Dg.half_lt n (by omega)
    by_cases hh : m ≤ Dg.half n
    · rw [Dg.long_fst n m w h1 (by omega) hh]
      have := ih (Dg.half n) g2 m w h1 hh
      omega
    · rw [Dg.long_snd n m w (by omega) hh]
      have := ih (n - Dg.half n) (by omega) (m - Dg.half n) false (by omega) (by omega)
      omega
theorem headD16 {r : List ByteArray} (h : ∀ s ∈ r, s.size ≤ 16) : (r.headD ⟨#[]⟩).size ≤ 16 := by
  cases r with
  | nil => decide
  | cons a r => exact h a (List.mem_cons_self ..)
theorem bothW_sz (w : List Bool) : ∀ (whole : Bool) (old : ByteArray) (r : List ByteArray), old.size ≤ 16 → (∀ s ∈ r, s.size ≤ 16) → (Dg.bothW w whole old r).1.size ≤ 16 ∧ (Dg.bothW w whole old r).2.size ≤ 16 := by
  induction w with
  | nil =>
    intro whole old r ho hr
    rw [Dg.bothW]
    split
    · exact ⟨ho, ho⟩
    · exact ⟨headD16 hr, headD16 hr⟩
  | cons b w ih =>
    intro whole old r ho hr
    have hn : ∀ x y, (Dg.nodeB x y).size ≤ 16 := fun x y => by rw [Dg.nodeB, listB_size]; decide
    cases b with
    | true => exact ⟨(ih _ _ _ ho fun s hs => hr s (List.mem_of_mem_tail hs)).1, hn _ _⟩
    | false => exact ⟨hn _ _, hn _ _⟩
theorem both_sz (n m : Nat) (wh : Bool) (old : ByteArray) (p : List ByteArray) (k : Nat) (ho : old.size = 16) (hz : ∀ s ∈ p, s.size = 16) : (Dg.both n m wh old (p.take k).reverse).1.size ≤ 16 ∧ (Dg.both n m wh old (p.take k).reverse).2.size ≤ 16 :=
  bothW_sz _ _ _ _ (by omega) fun s hs => by rw [hz s (List.mem_of_mem_take (List.mem_reverse.1 hs))]; decide
theorem ret_pair {a b c d : ByteArray} (h : a = c) (h' : b = d) : Ending.returned (.tuple #[.string a, .string b]) = .returned (.tuple #[.string c, .string d]) := by rw [h, h']
theorem flag_one (sh : Bool) (k : Nat) : (sh || decide (k = 0)) = (sh || decide (k < 1)) := by
  cases sh with
  | true => rfl
  | false => rw [Bool.false_or, Bool.false_or]; exact decide_eq_decide.2 (by omega)
theorem flag_no (sh : Bool) (k : Nat) : (sh || decide (k < 0)) = sh := by simp
theorem PSt.drewN {w : World} {bl bp : Nat} {A : Option Addr} {c n : Nat} {sh : Bool} (h : PSt w bl bp A c n sh) (q : Nat) : PSt (w.drewN q) bl bp A c n sh := ⟨h.l, h.lf, h.p0, h.p1, h.pf⟩
end Go.Proofs.YtobhpeockinnjaaGreatDoor
/- Extends of package tree. -/
namespace Go.Proofs.YtobhpeockinnjaaGreatDoor
open Go Go.RowKit Go.Sort
/-- What Extends answers. -/
def extB (old : ByteArray) (m : Int) (root : ByteArray) (n : Int) (p : List ByteArray) : Bool :=
  decide (0 ≤ m ∧ m ≤ n ∧ n ≤ 1000000) && (allDig p && (allDig [old, root] &&
    (if m = 0 then decide (p.length = 0) && (decide (old = Dg.emptyB) && (decide (0 < n) || decide (root = old)))
     else decide (p.length = Dg.long n.toNat m.toNat true) && (decide ((Dg.both n.toNat m.toNat true old p.reverse).1 = old) && decide ((Dg.both n.toNat m.toNat true old p.reverse).2 = root)))))
theorem allDig_two {a b : ByteArray} (h : allDig [a, b] = true) : a.size = 16 ∧ b.size = 16 := ⟨allDig_16 h a (by simp), allDig_16 h b (by simp)⟩
theorem root_nil_of (w : World) (he : Env w) : Calls Tryz.prog 33 #[.slice none 0 0] w fun e w' => e = .returned (.string Dg.emptyB) ∧ Below w.heap.size w w' :=
  root_of 0 none 0 [] Dg.emptyB w rfl rfl he (Nat.le_refl _) (by omega) (by simp) (Strs.nil _ _ _)
end Go.Proofs.YtobhpeockinnjaaGreatDoor
/- Path of the reference. -/
namespace Go.Proofs.YtobhpeockinnjaaGreatDoor
open Go Go.RowKit Go.Sort
theorem OwnS.base {w : World} {B B' : Nat} {v : Value} {l : List ByteArray} (h : OwnS w B v l) (hB : B' ≤ B) : OwnS w B' v l := by
  obtain ⟨h1, h2⟩ := h
  refine ⟨h1, ?_⟩
  rcases h2 with h2 | ⟨g, cap, cur, hv, hg, hh, r⟩
  · exact Or.inl h2
  · exact Or.inr ⟨g, cap, cur, hv, by omega, hh, r⟩
theorem OwnS.alloc {w : World} {B : Nat} {v : Value} {l : List ByteArray} (h : OwnS w B v l) (o : Obj) : OwnS (w.alloc o) B v l := OwnV.alloc h o
theorem OwnS.drew {w : World} {B : Nat} {v : Value} {l : List ByteArray} (h : OwnS w B v l) : OwnS w.drew B v l := h
theorem new_cell (w : World) (v : Value) (T : TypeId) : (w.alloc (.cells #[v] T)).cell? ⟨w.heap.size, 0, none⟩ = some v := by
  rw [cell_of_row _ _ _ _ _ (0, 0) (heap_alloc_new w _)]; rfl
/-- One string, known by its cell, onto strings of the call's own. -/
theorem step_c (w0 : World) {ops : Array Oper} {rest : List Oper} {o : Oper} {a : Act} {Q : Exit → Act → World → Prop} (hgd : o.guard = none) (sl x : Operand)
    (ho : o.op = .call { callee := .builtin .append, args := #[sl, x], argTypes := #[27, 27] })
    (s : ByteArray) (B : Nat) (v : Value) (l : List ByteArray) (hs : a.eval sl = v) (hown : OwnS w0 B v l) (ad : Addr) (c : Nat) (hx : a.eval x = .slice (some ad) 1 c) (hc : w0.cell? ad = some (.string s))
    (hlen : l.length < 1099511627776) (hB : B ≤ w0.heap.size)
    (h : ∀ v' w', OwnS w' B v' (l ++ [s]) → Below B w0 w' → wpList Tryz.prog ops Q rest (a.put o.dst v') w') : wpList Tryz.prog ops Q (o :: rest) a w0 := by
  refine step_one _ hgd sl x 27 9 _ _ ho Tryz.underlying27 strInfo rfl B v _ hs hown ad c (.string s) hx hc rfl (by rw [List.length_map]; exact hlen) (by omega) hB fun v' w' h1 h2 => h v' w' ?_ h2
  unfold OwnS
  rw [List.map_append]
  exact h1
/-- The same at a step of a region that draws its order. -/
theorem step_cd {w : World} {ops : Array Oper} {o : Oper} {a : Act} {K : Act → World → Prop} {Q : Exit → Act → World → Prop} {E : Prop} (hgd : o.guard = none) (sl x : Operand)
    (ho : o.op = .call { callee := .builtin .append, args := #[sl, x], argTypes := #[27, 27] })
    (s : ByteArray) (B : Nat) (v : Value) (l : List ByteArray) (hs : a.eval sl = v) (hown : OwnS w B v l) (ad : Addr) (c : Nat) (hx : a.eval x = .slice (some ad) 1 c) (hc : w.cell? ad = some (.string s))
    (hlen : l.length < 1099511627776) (hB : B ≤ w.heap.size)
    (h : ∀ g cap w', OwnS w' B (.slice (some ⟨g, 0, none⟩) (l.length + 1) cap) (l ++ [s]) → Below B w w' → K (a.put o.dst (.slice (some ⟨g, 0, none⟩) (l.length + 1) cap)) w') :
    if Region.wanted o (yielded ops a.tmps) = true then Oper.wp Tryz.prog o a w K Q else E := by
  obtain ⟨i, h1, h2, h3, h4⟩ := info_parts strInfo
  unfold OwnS OwnV at hown
  rw [List.length_map] at hown
  refine step_append_lies w hgd sl x 27 ho B 9 i _ 1 16 Tryz.underlying27 h1 h2 h3 h4 rfl (by omega) v l.length _ hs hown ad 1 c [.string s] hx rfl ?_ ?_ (by omega) (by unfold maxLen; omega) (by omega) hB w.heap.size rfl fun g cap w' h5 h6 _ _ => h g cap w' ?_ (below_own hown h6 hB)
  · intro j u' hj
    rcases j with _ | j
    · obtain rfl : Value.string s = u' := by simpa using hj
      have : ad.add 0 = ad := by unfold Addr.add; simp
      rw [this]; exact hc
    · simp at hj
  · intro u' hu'
    obtain rfl : u' = Value.string s := by simpa using hu'
    rfl
  · unfold OwnS OwnV
    rw [List.length_map, List.length_append, List.map_append, List.length_singleton]
    exact h5
theorem Below.more {w W : World} (h : Below w.heap.size w W) (o : Obj) : Below w.heap.size w (W.alloc o) := h.alloc h.size o
theorem Below.news {w W : World} (_h : Below w.heap.size w W) (o : Obj) : Below W.heap.size W (W.alloc o) := (Below.refl _ _).alloc (Nat.le_refl _) o
set_option maxRecDepth 100000 in
set_option maxHeartbeats 1000000 in
theorem rpath_any (n : Nat) : ∀ (A : Option Addr) (c : Nat) (l : List ByteArray) (i : Nat) (w : World), l.length = n → n ≤ c → 1 ≤ n → i < n → n ≤ 1048576 → (∀ s ∈ l, s.size ≤ 1048576) → Strs w w.heap.size A l →
    Calls Tryz.prog 86 #[.slice A n c, .int .i64 i] w fun e w' => (∃ v, e = Ending.returned v ∧ OwnS w' w.heap.size v (Dg.path l i)) ∧ Below w.heap.size w w' := by
  induction n using Nat.strongRecOn with
  | _ n ih =>
  intro A c l i w hl hc h1 hi hn hs hS
  go_enter Tryz.func86, Tryz.ntmps86
  by_cases hone : n = 1
  · subst hone
    go_wp2
    go_ret
    rw [Dg.path_short l i (by omega)]
    exact ⟨⟨_, rfl, OwnS.nil _ _⟩, Below.refl _ _⟩
  · have g1 := Dg.half_pos n
    have g2 := Dg.half_lt n (by omega)
    have n1 : ((n : Int) == 1) = false := by simpa using (show ¬ (n : Int) = 1 by omega)
    have pf := hide (fun h => Dg.path_fst l i (by omega) h)
    have ps := hide (fun h => Dg.path_snd l i (by omega) h)
    rw [hl] at pf ps
    have HS := hide hs; clear hs
    have r1 := hide (fun (W : World) (g : Below w.heap.size w W) => (rroot_of (Dg.half n) A c (l.take (Dg.half n)) _ W (by rw [List.length_take]; omega) rfl (by omega) (by omega) (fun s hs' => HS.out s (List.mem_of_mem_take hs')) (keepS (hS.take _) g)))
    have r2 := hide (fun (W : World) (g : Below w.heap.size w W) => (rroot_of (n - Dg.half n) (offA A (Dg.half n) c) (c - Dg.half n) (l.drop (Dg.half n)) _ W (by rw [List.length_drop, hl]) rfl (by omega) (by omega) (fun s hs' => HS.out s (List.mem_of_mem_drop hs')) (keepS (hS.drop (by omega) _) g)))
    have p1 := hide (fun (W : World) (g : Below w.heap.size w W) (h : i < Dg.half n) => (ih (Dg.half n) g2 A c (l.take (Dg.half n)) i W (by rw [List.length_take]; omega) (by omega) g1 h (by omega) (fun s hs' => HS.out s (List.mem_of_mem_take hs')) (keepS (hS.take _) g)))
    have g4 : 1 ≤ n - Dg.half n := by omega
    have p2 := hide (fun (W : World) (g : Below w.heap.size w W) (h : ¬ i < Dg.half n) => (ih (n - Dg.half n) (by omega) (offA A (Dg.half n) c) (c - Dg.half n) (l.drop (Dg.half n)) (i - Dg.half n) W (by rw [List.length_drop, hl]) (by omega) g4 (by omega) (by omega) (fun s hs' => HS.out s (List.mem_of_mem_drop hs')) (keepS (hS.drop (by omega) _) g)))
    have e1 := hide (show (l.take (Dg.half n)).length = Dg.half n by rw [List.length_take]; omega)
    have e2 := hide (show (l.drop (Dg.half n)).length = n - Dg.half n by rw [List.length_drop]; omega)
    clear ih hS
    go_wp2_with fail
    refine (rhalf_any n (by omega) _).mono ?_
    rintro e w1 ⟨rfl, rfl⟩
    generalize Dg.half n = m at *
    have l1 : i < m → (Dg.path (l.take m) i).length ≤ 1048576 := fun h => by rw [Dg.path_len m _ _ e1.out h]; have := length_le m i; omega
    have l2 : ¬ i < m → (Dg.path (l.drop m) (i - m)).length ≤ 1048576 := fun h => by rw [Dg.path_len (n - m) _ _ e2.out (by omega)]; have := length_le (n - m) (i - m); omega
    have L1 := hide l1; have L2 := hide l2; clear l1 l2
    generalize Dg.root (l.take m) = X at *
    generalize Dg.root (l.drop m) = Y at *
    have s1 := slice_to A n c m (by omega)
    have s2 := slice_from A n c m (by omega)
    have hdr : Below w.heap.size w w.drew := (Below.refl _ _).drew
    by_cases him : i < m
    · have pl := L1.out him
      have P1 := hide (fun W (g : Below w.heap.size w W) => (p1.out W g him).mono fun e w' ⟨⟨v, h1, h2⟩, h3⟩ => (⟨⟨v, h1, h2.base g.size⟩, h3⟩ : (∃ v, e = Ending.returned v ∧ OwnS w' w.heap.size v (Dg.path (l.take m) i)) ∧ Below W.heap.size W w'))
      have PE := hide (pf.out him)
      generalize Dg.path (l.take m) i = q at *
      clear p1 p2 pf ps L1 L2
      go_wp2_with fail
      go_region_held3 (fun W => Below w.heap.size w W) (first | assumption | exact Below.more (by assumption) _)
        (first
          | (go_at_call 86; refine (P1.out _ (by first | assumption | exact Below.more (by assumption) _)).mono ?_; rintro e wP ⟨⟨v, rfl, hO⟩, hbP⟩; have hgP := bnext (by first | assumption | exact Below.more (by assumption) _) hbP)
          | (go_at_call 72; refine (r2.out _ (by first | assumption | exact Below.more (by assumption) _)).mono ?_; rintro e wR ⟨rfl, hbR⟩; have hgR := bnext (by first | assumption | exact Below.more (by assumption) _) hbR)
          | (refine step_cd rfl (.tmp 20) (.tmp 25) rfl Y w.heap.size v q rfl ((hO.below hbR).alloc _) ⟨wR.heap.size, 0, none⟩ 1 rfl (new_cell wR _ _) (by omega) (Below.more hgR _).size ?_; intro g cap wF hF hbF; have hgF := (Below.more hgR _).trans hbF)
          | (refine step_cd rfl (.tmp 20) (.tmp 25) rfl Y w.heap.size v q rfl (hO.alloc _) ⟨wP.heap.size, 0, none⟩ 1 rfl (new_cell wP _ _) (by omega) (Below.more hgP _).size ?_; intro g cap wF hF hbF; have hgF := (Below.more hgP _).trans hbF)
          | (refine step_cd rfl (.tmp 20) (.tmp 25) rfl Y w.heap.size v q rfl hO ⟨wR.heap.size, 0, none⟩ 1 rfl ((hbP.cell (p := ⟨wR.heap.size, 0, none⟩) (by simp)).trans (new_cell wR _ _)) (by omega) hgP.size ?_; intro g cap wF hF hbF; have hgF := hgP.trans hbF))
      all_goals go_wp2
      all_goals go_ret
      all_goals rw [PE.out]
      all_goals exact ⟨⟨_, rfl, hF⟩, hgF⟩
    · have pl := L2.out him
      have P2 := hide (fun W (g : Below w.heap.size w W) => (p2.out W g him).mono fun e w' ⟨⟨v, h1, h2⟩, h3⟩ => (⟨⟨v, h1, h2.base g.size⟩, h3⟩ : (∃ v, e = Ending.returned v ∧ OwnS w' w.heap.size v (Dg.path (l.drop m) (i - m))) ∧ Below W.heap.size W w'))
      have PE := hide (ps.out him)
      generalize Dg.path (l.drop m) (i - m) = q at *
      clear p1 p2 pf ps L1 L2
      have hwr : IntKind.i64.wrap ((i : Int) - (m : Int)) = ((i - m : Nat) : Int) := by rw [IntWalk.i64_in _ (by omega)]; omega
      go_wp2_with fail
      go_region_held3 (fun W => Below w.heap.size w W) (first | assumption | exact Below.more (by assumption) _)
        (first
          | (go_at_call 86; refine (P2.out _ (by first | assumption | exact Below.more (by assumption) _)).mono ?_; rintro e wP ⟨⟨v, rfl, hO⟩, hbP⟩; have hgP := bnext (by first | assumption | exact Below.more (by assumption) _) hbP)
          | (go_at_call 72; refine (r1.out _ (by first | assumption | exact Below.more (by assumption) _)).mono ?_; rintro e wR ⟨rfl, hbR⟩; have hgR := bnext (by first | assumption | exact Below.more (by assumption) _) hbR)
          | (refine step_cd rfl (.tmp 33) (.tmp 38) rfl X w.heap.size v q rfl ((hO.below hbR).alloc _) ⟨wR.heap.size, 0, none⟩ 1 rfl (new_cell wR _ _) (by omega) (Below.more hgR _).size ?_; intro g cap wF hF hbF; have hgF := (Below.more hgR _).trans hbF)
          | (refine step_cd rfl (.tmp 33) (.tmp 38) rfl X w.heap.size v q rfl (hO.alloc _) ⟨wP.heap.size, 0, none⟩ 1 rfl (new_cell wP _ _) (by omega) (Below.more hgP _).size ?_; intro g cap wF hF hbF; have hgF := (Below.more hgP _).trans hbF)
          | (refine step_cd rfl (.tmp 33) (.tmp 38) rfl X w.heap.size v q rfl hO ⟨wR.heap.size, 0, none⟩ 1 rfl ((hbP.cell (p := ⟨wR.heap.size, 0, none⟩) (by simp)).trans (new_cell wR _ _)) (by omega) hgP.size ?_; intro g cap wF hF hbF; have hgF := hgP.trans hbF))
      all_goals clear hwr
      all_goals go_wp2
      all_goals go_ret
      all_goals rw [PE.out]
      all_goals exact ⟨⟨_, rfl, hF⟩, hgF⟩
end Go.Proofs.YtobhpeockinnjaaGreatDoor
/- Path and Link of the reference. -/
namespace Go.Proofs.YtobhpeockinnjaaGreatDoor
open Go Go.RowKit Go.Sort
theorem own_new (w : World) (s : ByteArray) (B : Nat) (hB : B ≤ w.heap.size) : OwnS (w.alloc (.cells #[.string s] 9)) B (.slice (some ⟨w.heap.size, 0, none⟩) 1 1) [s] :=
  ⟨rfl, Or.inr ⟨w.heap.size, 1, #[.string s], rfl, hB, heap_alloc_new w _, Nat.le_refl _, by unfold maxLen; omega, rfl, rfl⟩⟩
theorem link_le (n : Nat) (l : List ByteArray) (m : Nat) (w : Bool) (hl : l.length = n) (h1 : 1 ≤ m) (hm : m ≤ n) : (Dg.link l m w).length ≤ n := by
  rw [Dg.link_len n l m w hl h1 hm]; exact long_le n m w h1 hm
theorem rPath_any (A : Option Addr) (c n : Nat) (l : List ByteArray) (i : Nat) (w : World) (hl : l.length = n) (hc : n ≤ c) (hn : n ≤ 1048576) (hs : ∀ s ∈ l, s.size ≤ 1048576) (hS : Strs w w.heap.size A l) (hi : i < n) :
    Calls Tryz.prog 46 #[.slice A n c, .int .i64 i] w fun e w' => ∃ A c n, e = .returned (.tuple #[.slice A n c, .int .i64 0]) ∧ (Dg.path l i).length = n ∧ n ≤ c ∧ Strs w' w'.heap.size A (Dg.path l i) ∧ Below w.heap.size w w' := by
  have HP := hide (rpath_any n A c l i w hl hc (by omega) hi hn hs hS)
  clear hs
  generalize Dg.path l i = q at *
  have k1 : ¬ (n ≤ i) := by omega
  have k2 : ¬ ((i : Int) < 0) := by omega
  have k3 : ¬ ((n : Int) ≤ (i : Int)) := by omega
  go_enter Tryz.func46, Tryz.ntmps46
  go_wp2_with fail
  refine HP.out.mono ?_
  rintro e w1 ⟨⟨v, rfl, hO⟩, hb⟩
  obtain ⟨A1, c1, rfl, hc1, hS1⟩ := hO.strs
  clear hO HP
  go_wp2
  go_ret2
  exact ⟨_, _, _, rfl, rfl, hc1, hS1, hb⟩
theorem rPath_bad (A : Option Addr) (c n : Nat) (i : Int) (w : World) (hi : i < 0 ∨ n ≤ i) :
    Calls Tryz.prog 46 #[.slice A n c, .int .i64 i] w fun e w' => e = .returned (.tuple #[.slice none 0 0, .int .i64 1]) ∧ w = w' := by
  go_enter Tryz.func46, Tryz.ntmps46
  by_cases k2 : i < 0
  · go_wp2
    go_ret2
    exact ⟨rfl, rfl⟩
  · have k1 : (n : Int) ≤ i := by omega
    go_wp2
    go_ret2
    exact ⟨rfl, rfl⟩
/-- What Link hands back: nothing for none and for all. -/
def linkL (l : List ByteArray) (m : Nat) : List ByteArray := if m = 0 then [] else Dg.link l m true
theorem linkL_zero (l : List ByteArray) : linkL l 0 = [] := rfl
theorem linkL_pos (l : List ByteArray) (m : Nat) (h : m ≠ 0) : linkL l m = Dg.link l m true := if_neg h
theorem linkL_all (l : List ByteArray) : linkL l l.length = [] := by
  unfold linkL
  split
  · rfl
  · rw [Dg.link_all]; rfl
end Go.Proofs.YtobhpeockinnjaaGreatDoor
/- Check, long, both and Extends of the reference. -/
namespace Go.Proofs.YtobhpeockinnjaaGreatDoor
open Go Go.RowKit Go.Sort
theorem ieq_t {a b : Int} (h : a = b) : (a == b) = true := beq_iff_eq.2 h
theorem ine_f {a b : Int} (h : a = b) : (a != b) = false := by rw [bne, ieq_t h]; rfl
theorem ieq_f {a b : Int} (h : a ≠ b) : (a == b) = false := beq_eq_false_iff_ne.2 h
theorem ine_t {a b : Int} (h : a ≠ b) : (a != b) = true := by rw [bne, ieq_f h]; rfl
set_option maxHeartbeats 400000 in
theorem rcheck_of (root : ByteArray) (n i : Int) (leaf : ByteArray) (A : Option Addr) (c k : Nat) (p : List ByteArray) (R : Bool) (hR : checkB root n i leaf p = R) (w : World) (hk : p.length = k) (hk2 : k ≤ 1048576) (hkc : k ≤ c) (hps : ∀ s ∈ p, s.size ≤ 1048576) (hleaf : leaf.size ≤ 1048576) (hS : Strs w w.heap.size A p) :
    Calls Tryz.prog 51 #[.string root, .int .i64 n, .int .i64 i, .string leaf, .slice A k c] w fun e w' => e = .returned (.bool R) ∧ Below w.heap.size w w' := by
  have HR := hide hR; clear hR
  have HPS := hide hps; clear hps
  go_enter Tryz.func51, Tryz.ntmps51
  by_cases q1 : 1000000 < n
  · have q : checkB root n i leaf p = false := by unfold checkB; rw [decide_eq_false (by omega), Bool.false_and]
    have := q.symm.trans HR.out
    subst this
    go_wp2
    go_ret
    exact ⟨rfl, Below.refl _ _⟩
  by_cases q2 : i < 0
  · have q : checkB root n i leaf p = false := by unfold checkB; rw [decide_eq_false (by omega), Bool.false_and]
    have := q.symm.trans HR.out
    subst this
    go_wp2
    go_ret
    exact ⟨rfl, Below.refl _ _⟩
  by_cases q3 : n ≤ i
  · have q : checkB root n i leaf p = false := by unfold checkB; rw [decide_eq_false (by omega), Bool.false_and]
    have := q.symm.trans HR.out
    subst this
    go_wp2
    go_ret
    exact ⟨rfl, Below.refl _ _⟩
  obtain ⟨I, rfl⟩ : ∃ I : Nat, i = I := ⟨i.toNat, by omega⟩
  obtain ⟨N, rfl⟩ : ∃ N : Nat, n = N := ⟨n.toNat, by omega⟩
  have q4 : decide ((N : Int) ≤ 1000000 ∧ (0 : Int) ≤ I ∧ (I : Int) < N) = true := decide_eq_true (by omega)
  have o1 : N ≤ 1000000 := by omega
  have o2 : I < N := by omega
  clear q1 q2 q3
  have HQ : Hid ((allDig p && (decide (p.length = Dg.length N I) && decide (Dg.up N I (Dg.leafB leaf) p.reverse = root))) = R) := by
    have := HR.out
    unfold checkB at this
    rw [q4, Bool.true_and, Int.toNat_natCast, Int.toNat_natCast] at this
    exact this
  clear HR q4
  subst hk
  go_wp2_with fail
  have hl := length_le N I
  have hup := hide (fun (W : World) (h : p.length = Dg.length N I) (hST : Strs W W.heap.size A p) => rup_any N I A c p.length (Dg.leafB leaf) p _ W rfl h.symm rfl (by omega) o2 (by omega) hkc (by rw [Dg.leafB, listB_size]; decide) HPS.out hST)
  refine (rlength_any N I _ _ rfl (by omega) o2 (by omega)).mono ?_
  rintro e w1 ⟨rfl, rfl⟩
  by_cases he : p.length = Dg.length N I
  · have he' := hide he
    generalize hL : Dg.length N I = L at *
    have e1 : ((p.length : Int) == (L : Int)) = true := ieq_t (by omega)
    have e2 : ((p.length : Int) != (L : Int)) = false := ine_f (by omega)
    clear hL he
    go_wp2_with fail
    cases hd : allDig p with
    | false =>
      have q := HQ.out
      rw [hd, Bool.false_and] at q
      subst q
      refine (rdigests_any A c p.length p false hd _ rfl (by omega) (fun s hs => by have := HPS.out s hs; omega) hS).mono ?_
      rintro e w2 ⟨rfl, hb⟩
      clear hd
      go_wp2
      go_ret
      exact ⟨rfl, hb⟩
    | true =>
      have q := HQ.out
      rw [hd, decide_eq_true he'.out, Bool.true_and, Bool.true_and] at q
      have HQ2 := hide q; clear q HQ
      refine (rdigests_any A c p.length p true hd _ rfl (by omega) (fun s hs => by have := HPS.out s hs; omega) hS).mono ?_
      rintro e w2 ⟨rfl, hb⟩
      clear hd
      go_wp2_with fail
      refine (rleaf_any leaf hleaf _).mono ?_
      rintro e w3 ⟨rfl, hb3⟩
      have hb4 := bnext hb hb3
      have hU := hide (hup.out w3 he'.out (keepS hS hb4))
      generalize Dg.up N I (Dg.leafB leaf) p.reverse = X at *
      clear hup hS
      go_wp2_with fail
      refine hU.out.mono ?_
      rintro e w4 ⟨rfl, hb5⟩
      have hb6 := bnext hb4 hb5
      by_cases hx : X = root
      · have t1 := tl_true hx
        have q := HQ2.out
        rw [decide_eq_true hx] at q
        subst q hx
        go_wp2
        go_ret
        exact ⟨rfl, hb6⟩
      · have t1 := tl_false hx
        have q := HQ2.out
        rw [decide_eq_false hx] at q
        subst q
        clear hx
        go_wp2
        go_ret
        exact ⟨rfl, hb6⟩
  · have q := HQ.out
    rw [decide_eq_false he, Bool.false_and, Bool.and_false] at q
    subst q
    generalize hL : Dg.length N I = L at *
    have e1 : ((p.length : Int) == (L : Int)) = false := ieq_f (by omega)
    have e2 : ((p.length : Int) != (L : Int)) = true := ine_t (by omega)
    clear hL he hup
    go_wp2
    go_ret
    exact ⟨rfl, Below.refl _ _⟩
theorem bothW_le (m : Nat) (h16 : 16 ≤ m) (w : List Bool) : ∀ (whole : Bool) (old : ByteArray) (r : List ByteArray), old.size ≤ m → (∀ s ∈ r, s.size ≤ m) → (Dg.bothW w whole old r).1.size ≤ m ∧ (Dg.bothW w whole old r).2.size ≤ m := by
  have hd : ∀ r : List ByteArray, (∀ s ∈ r, s.size ≤ m) → (r.headD ⟨#[]⟩).size ≤ m := fun r h => by
    cases r with
    | nil => exact Nat.zero_le _
    | cons a r => exact h a (List.mem_cons_self ..)
  induction w with
  | nil =>
    intro whole old r ho hr
    rw [Dg.bothW]
    split
    · exact ⟨ho, ho⟩
    · exact ⟨hd r hr, hd r hr⟩
  | cons b w ih =>
    intro whole old r ho hr
    have hn : ∀ x y, (Dg.nodeB x y).size ≤ m := fun x y => by rw [Dg.nodeB, listB_size]; exact h16
    cases b with
    | true => exact ⟨(ih _ _ _ ho fun s hs => hr s (List.mem_of_mem_tail hs)).1, hn _ _⟩
    | false => exact ⟨hn _ _, hn _ _⟩
theorem rtake_mem {p : List ByteArray} {m : Nat} (h : ∀ s ∈ p, s.size ≤ m) (k : Nat) : ∀ s ∈ (p.take k).reverse, s.size ≤ m := fun s hs => h s (List.mem_of_mem_take (List.mem_reverse.1 hs))
end Go.Proofs.YtobhpeockinnjaaGreatDoor
/- Extends of the reference. -/
namespace Go.Proofs.YtobhpeockinnjaaGreatDoor
open Go Go.RowKit Go.Sort
theorem extB_all (old : ByteArray) (root : ByteArray) (N : Nat) (p : List ByteArray) (h0 : N ≠ 0) (hd : allDig p = true) (hd2 : allDig [old, root] = true) (hN : N ≤ 1000000) : extB old N root N p = (decide (p.length = 0) && decide (old = root)) := by
  unfold extB
  rw [hd, hd2, decide_eq_true (show (0 : Int) ≤ N ∧ (N : Int) ≤ N ∧ (N : Int) ≤ 1000000 by omega), if_neg (by omega), Int.toNat_natCast, Dg.long_all, Dg.both_all, Bool.true_and, Bool.true_and, Bool.true_and, if_pos rfl, if_pos rfl, decide_eq_true (show (old, old).1 = old from rfl), Bool.true_and]
end Go.Proofs.YtobhpeockinnjaaGreatDoor
/- Texts of the reference: the strings that are digested for a root. -/
namespace Go.Proofs.YtobhpeockinnjaaGreatDoor
open Go Go.RowKit Go.Sort
theorem add_off0 (g j : Nat) : (⟨g, 0, none⟩ : Addr).add j = ⟨g, j, none⟩ := by rw [addr_off, Nat.zero_add]
theorem jB_size (l : List ByteArray) (h3 : l.length ≤ 3) (h : ∀ s ∈ l, s.size ≤ 1048576) : (Dg.jB l).size ≤ 4194304 := by
  rw [Dg.jB, Dg.size_B]
  have h1 := Dg.joinedL_len_le l 1048576 h
  have h2 : l.length * (1048576 + 21) ≤ 3 * (1048576 + 21) := Nat.mul_le_mul_right _ h3
  omega
theorem texts_len (n : Nat) : ∀ l : List ByteArray, l.length = n → 1 ≤ (Dg.texts l).length ∧ (Dg.texts l).length ≤ 2 * n + 1 ∧ (1 ≤ n → (Dg.texts l).length ≤ 2 * n - 1) := by
  induction n using Nat.strongRecOn with
  | _ n ih =>
  intro l hl
  by_cases h0 : n = 0
  · obtain rfl : l = [] := List.length_eq_zero_iff.1 (hl.trans h0)
    rw [Dg.texts_nil]
    simp
    omega
  by_cases h1 : n = 1
  · obtain ⟨x, rfl⟩ : ∃ s, l = [s] := List.length_eq_one_iff.1 (hl.trans h1)
    rw [Dg.texts_one]
    simp
    omega
  have g1 := Dg.half_pos n
  have g2 := Dg.half_lt n (by omega)
  rw [Dg.texts_more l (by omega), hl, List.length_append, List.length_append, List.length_singleton]
  have a := ih (Dg.half n) g2 (l.take (Dg.half n)) (by rw [List.length_take]; omega)
  have b := ih (n - Dg.half n) (by omega) (l.drop (Dg.half n)) (by rw [List.length_drop]; omega)
  have a2 := a.2.2 (by omega)
  have b2 := b.2.2 (by omega)
  omega
theorem texts_size (n : Nat) : ∀ l : List ByteArray, l.length = n → (∀ s ∈ l, s.size ≤ 1048576) → ∀ t ∈ Dg.texts l, t.size ≤ 4194304 := by
  induction n using Nat.strongRecOn with
  | _ n ih =>
  intro l hl hs t ht
  by_cases h0 : n = 0
  · obtain rfl : l = [] := List.length_eq_zero_iff.1 (hl.trans h0)
    rw [Dg.texts_nil, List.mem_singleton] at ht
    rw [ht]; exact jB_size _ (by simp) (mem1 (by decide))
  by_cases h1 : n = 1
  · obtain ⟨x, rfl⟩ : ∃ s, l = [s] := List.length_eq_one_iff.1 (hl.trans h1)
    rw [Dg.texts_one, List.mem_singleton] at ht
    rw [ht]; exact jB_size _ (by simp) (mem2 (by decide) (hs x (by simp)))
  have g1 := Dg.half_pos n
  have g2 := Dg.half_lt n (by omega)
  rw [Dg.texts_more l (by omega), hl] at ht
  rcases List.mem_append.1 ht with ht | ht
  · rcases List.mem_append.1 ht with ht | ht
    · exact ih (Dg.half n) g2 (l.take (Dg.half n)) (by rw [List.length_take]; omega) (fun s hs' => hs s (List.mem_of_mem_take hs')) t ht
    · exact ih (n - Dg.half n) (by omega) (l.drop (Dg.half n)) (by rw [List.length_drop]; omega) (fun s hs' => hs s (List.mem_of_mem_drop hs')) t ht
  · rw [List.mem_singleton] at ht
    rw [ht]; exact jB_size _ (by simp) (mem3 (by decide) (by rw [root_size]; decide) (by rw [root_size]; decide))
/-- A slice of the call's own that is not empty. -/
theorem OwnS.full {w : World} {B : Nat} {v : Value} {l : List ByteArray} (h : OwnS w B v l) (h0 : 0 < l.length) : ∃ g cap, v = .slice (some ⟨g, 0, none⟩) l.length cap ∧ B ≤ g ∧ g < w.heap.size := by
  rcases h.cases with ⟨_, rfl⟩ | ⟨g, cap, h1, h2, h3, _⟩
  · simp at h0
  · exact ⟨g, cap, h1, h2, h3⟩
theorem OwnS.getc {w : World} {B g n cap : Nat} {l : List ByteArray} (h : OwnS w B (.slice (some ⟨g, 0, none⟩) n cap) l) : ∀ j (s : ByteArray), l[j]? = some s → w.cell? ⟨g, j, none⟩ = some (.string s) := by
  rcases h.cases with ⟨h, _⟩ | ⟨g', cap', h1, h2, h3, _, h4, _⟩
  · injection h with h _ _; cases h
  · injection h1 with h1 _ _
    injection h1 with h1
    injection h1 with h1 _ _
    subst h1
    exact h4
/-- A list of strings onto strings of the call's own, at a step of a region that draws its order. -/
theorem step_ld {w : World} {ops : Array Oper} {o : Oper} {a : Act} {K : Act → World → Prop} {Q : Exit → Act → World → Prop} {E : Prop} (hgd : o.guard = none) (sl x : Operand)
    (ho : o.op = .call { callee := .builtin .append, args := #[sl, x], argTypes := #[27, 27] })
    (B B' : Nat) (v : Value) (l l' : List ByteArray) (hs : a.eval sl = v) (hown : OwnS w B v l) (g' cap' : Nat) (hx : a.eval x = .slice (some ⟨g', 0, none⟩) l'.length cap') (hown' : OwnS w B' (.slice (some ⟨g', 0, none⟩) l'.length cap') l')
    (h0 : 0 < l'.length) (hlen : l.length + l'.length < 1099511627776) (hB : B ≤ w.heap.size)
    (h : ∀ g cap w', OwnS w' B (.slice (some ⟨g, 0, none⟩) (l.length + l'.length) cap) (l ++ l') → Below B w w' → w.grownBy w' v.ownBlock → (v.ownBlock = some g ∨ g = w.heap.size) → K (a.put o.dst (.slice (some ⟨g, 0, none⟩) (l.length + l'.length) cap)) w') :
    if Region.wanted o (yielded ops a.tmps) = true then Oper.wp Tryz.prog o a w K Q else E := by
  obtain ⟨i, h1, h2, h3, h4⟩ := info_parts strInfo
  unfold OwnS OwnV at hown
  rw [List.length_map] at hown
  have hat := hown'.getc
  refine step_append_lies w hgd sl x 27 ho B 9 i _ 1 16 Tryz.underlying27 h1 h2 h3 h4 rfl (by omega) v l.length _ hs hown ⟨g', 0, none⟩ l'.length cap' (l'.map .string) hx (by rw [List.length_map, Nat.mul_one]) ?_ ?_ h0 (by unfold maxLen; omega) (by omega) hB w.heap.size rfl fun g cap w' h5 h6 h7 _ => h g cap w' ?_ (below_own hown h6 hB) h6 h7
  · intro j u' hj
    rw [List.getElem?_map] at hj
    cases hq : l'[j]? with
    | none => rw [hq] at hj; cases hj
    | some s =>
      rw [hq] at hj
      obtain rfl : Value.string s = u' := by simpa using hj
      rw [add_off0]
      exact hat j s hq
  · intro u' hu'
    obtain ⟨s, _, rfl⟩ := List.mem_map.1 hu'
    rfl
  · unfold OwnS OwnV
    rw [List.length_map, List.length_append, List.map_append]
    exact h5
end Go.Proofs.YtobhpeockinnjaaGreatDoor
/- Lists of strings of the call's own: more laws. No conditions. -/
namespace Go.Proofs.YtobhpeockinnjaaGreatDoor
open Go Go.RowKit Go.Sort
theorem OwnS.bounds {w : World} {B g n cap : Nat} {l : List ByteArray} (h : OwnS w B (.slice (some ⟨g, 0, none⟩) n cap) l) : B ≤ g ∧ g < w.heap.size := by
  rcases h.cases with ⟨h, _⟩ | ⟨g', cap', h1, h2, h3, _, _, _⟩
  · injection h with h _ _; cases h
  · injection h1 with h1 _ _
    injection h1 with h1
    injection h1 with h1 _ _
    subst h1
    exact ⟨h2, h3⟩
/-- What a call hands back that makes a list of strings. -/
theorem made_of {f : FuncId} {args : Array Value} {w W : World} {l : List ByteArray} {n : Nat} (hn : l.length = n) (g : Below w.heap.size w W)
    (h : Calls Tryz.prog f args W fun e w' => (∃ g cap, e = .returned (.slice (some ⟨g, 0, none⟩) l.length cap) ∧ OwnS w' W.heap.size (.slice (some ⟨g, 0, none⟩) l.length cap) l) ∧ Below W.heap.size W w') :
    Calls Tryz.prog f args W fun e w' => (∃ g cap, e = .returned (.slice (some ⟨g, 0, none⟩) n cap) ∧ OwnS w' w.heap.size (.slice (some ⟨g, 0, none⟩) n cap) l ∧ W.heap.size ≤ g ∧ g < w'.heap.size) ∧ Below W.heap.size W w' := by
  subst hn
  exact h.mono fun e w' ⟨⟨b, cap, h1, h2⟩, h3⟩ => ⟨⟨b, cap, h1, h2.base g.size, h2.bounds.1, h2.bounds.2⟩, h3⟩
theorem len_snoc (l : List ByteArray) (x : ByteArray) : (l ++ [x]).length = l.length + 1 := by rw [List.length_append, List.length_singleton]
theorem sz_alloc {B : Nat} {w w' : World} {o : Obj} (h : Below B (w.alloc o) w') : w.heap.size + 1 ≤ w'.heap.size := by
  have := h.size
  rwa [World.size_alloc] at this
/-! A literal's cell behind an append that may have written another row of the call's own. -/
theorem lit_b {w wP wQ wF : World} {s : ByteArray} {T : TypeId} {ga : Nat} (hbP : Below (w.alloc (.cells #[.string s] T)).heap.size (w.alloc (.cells #[.string s] T)) wP) (hbQ : Below wP.heap.size wP wQ) (ba : (w.alloc (.cells #[.string s] T)).heap.size ≤ ga) (hgr : wQ.grownBy wF (some ga)) :
    wF.cell? ⟨w.heap.size, 0, none⟩ = some (.string s) := by
  have h1 := sz_alloc hbP
  have h2 := hbQ.size
  rw [World.size_alloc] at ba
  rw [hgr.cell_far ⟨w.heap.size, 0, none⟩ (by show w.heap.size < _; omega) (fun h => by have h' : w.heap.size = ga := Option.some.inj h; omega), hbQ.cell (p := ⟨w.heap.size, 0, none⟩) (by show w.heap.size < _; omega), hbP.cell (p := ⟨w.heap.size, 0, none⟩) (by simp)]
  exact new_cell _ _ _
theorem lit_c {wP wQ wF : World} {s : ByteArray} {T : TypeId} {ga : Nat} (bA : ga < wP.heap.size) (hbQ : Below (wP.alloc (.cells #[.string s] T)).heap.size (wP.alloc (.cells #[.string s] T)) wQ) (hgr : wQ.grownBy wF (some ga)) :
    wF.cell? ⟨wP.heap.size, 0, none⟩ = some (.string s) := by
  have h2 := sz_alloc hbQ
  rw [hgr.cell_far ⟨wP.heap.size, 0, none⟩ (by show wP.heap.size < _; omega) (fun h => by have h' : wP.heap.size = ga := Option.some.inj h; omega), hbQ.cell (p := ⟨wP.heap.size, 0, none⟩) (by simp)]
  exact new_cell _ _ _
theorem lit_d {wP wQ wF : World} {s : ByteArray} {T : TypeId} {ga : Nat} (bA : ga < wP.heap.size) (hsz : wP.heap.size ≤ wQ.heap.size) (hgr : (wQ.alloc (.cells #[.string s] T)).grownBy wF (some ga)) :
    wF.cell? ⟨wQ.heap.size, 0, none⟩ = some (.string s) := by
  rw [hgr.cell_far ⟨wQ.heap.size, 0, none⟩ (by simp) (fun h => by have h' : wQ.heap.size = ga := Option.some.inj h; omega)]
  exact new_cell _ _ _
end Go.Proofs.YtobhpeockinnjaaGreatDoor
/- Appends of lists of strings where the operation is wanted. No conditions. -/
namespace Go.Proofs.YtobhpeockinnjaaGreatDoor
open Go Go.RowKit Go.Sort
theorem wpList_wanted {P : Program} {ops : Array Oper} {Q : Exit → Act → World → Prop} {a : Act} {w : World} {rest : List Oper} {o : Oper} (hw : Region.wanted o (yielded ops a.tmps) = true)
    (h : ∀ K : Act → World → Prop, (∀ a w, wpList P ops Q rest a w → K a w) → o.wp P a w K Q) : wpList P ops Q (o :: rest) a w :=
  wpList_step fun K hK => by rw [if_pos hw]; exact h K hK
/-- A list of strings onto strings of the call's own, where the operation is wanted. -/
theorem step_lw {w : World} {ops : Array Oper} {rest : List Oper} {o : Oper} {a : Act} {Q : Exit → Act → World → Prop} (hgd : Region.wanted o (yielded ops a.tmps) = true) (sl x : Operand)
    (ho : o.op = .call { callee := .builtin .append, args := #[sl, x], argTypes := #[27, 27] })
    (B B' : Nat) (v : Value) (l l' : List ByteArray) (hs : a.eval sl = v) (hown : OwnS w B v l) (g' cap' : Nat) (hx : a.eval x = .slice (some ⟨g', 0, none⟩) l'.length cap') (hown' : OwnS w B' (.slice (some ⟨g', 0, none⟩) l'.length cap') l')
    (h0 : 0 < l'.length) (hlen : l.length + l'.length < 1099511627776) (hB : B ≤ w.heap.size) (n : Nat) (hn : l.length + l'.length = n)
    (h : ∀ g cap w', OwnS w' B (.slice (some ⟨g, 0, none⟩) n cap) (l ++ l') → Below B w w' → wpList Tryz.prog ops Q rest (a.put o.dst (.slice (some ⟨g, 0, none⟩) n cap)) w') : wpList Tryz.prog ops Q (o :: rest) a w := by
  subst hn
  obtain ⟨i, h1, h2, h3, h4⟩ := info_parts strInfo
  unfold OwnS OwnV at hown
  rw [List.length_map] at hown
  have hat := hown'.getc
  refine wpList_wanted hgd fun K hK => wp_append_lies w sl x 27 ho B 9 i _ 1 16 Tryz.underlying27 h1 h2 h3 h4 rfl (by omega) v l.length _ hs hown ⟨g', 0, none⟩ l'.length cap' (l'.map .string) hx (by rw [List.length_map, Nat.mul_one]) ?_ ?_ h0 (by unfold maxLen; omega) (by omega) hB w.heap.size rfl fun g cap w' h5 h6 h7 _ => hK _ _ (h g cap w' ?_ (below_own hown h6 hB))
  · intro j u' hj
    rw [List.getElem?_map] at hj
    cases hq : l'[j]? with
    | none => rw [hq] at hj; cases hj
    | some s =>
      rw [hq] at hj
      obtain rfl : Value.string s = u' := by simpa using hj
      rw [add_off0]
      exact hat j s hq
  · intro u' hu'
    obtain ⟨s, _, rfl⟩ := List.mem_map.1 hu'
    rfl
  · unfold OwnS OwnV
    rw [List.length_map, List.length_append, List.map_append]
    exact h5
theorem OwnS.strs' {w : World} {B g n cap : Nat} {l : List ByteArray} (h : OwnS w B (.slice (some ⟨g, 0, none⟩) n cap) l) : Strs w w.heap.size (some ⟨g, 0, none⟩) l :=
  ⟨fun _ => ⟨g, 0, rfl, h.bounds.2, fun j s hj => by rw [Nat.zero_add]; exact h.getc j s hj⟩⟩
theorem mem_app {a b : List ByteArray} {n : Nat} (ha : ∀ s ∈ a, s.size ≤ n) (hb : ∀ s ∈ b, s.size ≤ n) : ∀ s ∈ a ++ b, s.size ≤ n := fun s hs => by
  rcases List.mem_append.1 hs with h | h
  · exact ha s h
  · exact hb s h
end Go.Proofs.YtobhpeockinnjaaGreatDoor
/- Appends once more: whatever slice of strings, where the operation is wanted. -/
namespace Go.Proofs.YtobhpeockinnjaaGreatDoor
open Go Go.RowKit Go.Sort
theorem own_empty (w : World) (T : TypeId) (B : Nat) (hT : T = 9) (hB : B ≤ w.heap.size) : OwnS (w.alloc (.cells #[] T)) B (.slice (some ⟨w.heap.size, 0, none⟩) 0 0) [] := by
  subst hT
  exact ⟨rfl, Or.inr ⟨w.heap.size, 0, #[], rfl, hB, heap_alloc_new w _, Nat.le_refl _, Nat.zero_le _, rfl, rfl⟩⟩
theorem run_append_none {P : Program} {w : World} (base : Nat) (t ty e : TypeId) (i : TypeInfo) (size : Nat) (ht : P.underlying t = some (.slice e)) (hi : P.info? e = some i) (v : Value) (n : Nat) (xs : List Value) (hown : w.ownsRow base e size v n xs) (c : Nat) :
    (Builtin.append_ #[t, t] ty #[v, .slice none 0 c]).run P w = .ok v w := by
  rcases hown.2 with ⟨rfl, rfl⟩ | ⟨g, cap, cur, rfl, _, _, hnc, _⟩
  · simp [Builtin.append_, run_underlying ht, sizeOf, typeInfo, hi, Builtin.lenOf, Builtin.firstCells]
  · simp [Builtin.append_, run_underlying ht, sizeOf, typeInfo, hi, Builtin.lenOf, Builtin.firstCells, hnc, storeCells]
/-- A slice of strings, whatever it is, onto strings of the call's own. -/
theorem wp_ad {w : World} {o : Oper} {a : Act} {K : Act → World → Prop} {Q : Exit → Act → World → Prop} (sl x : Operand)
    (ho : o.op = .call { callee := .builtin .append, args := #[sl, x], argTypes := #[27, 27] })
    (B B' : Nat) (v : Value) (l l' : List ByteArray) (hs : a.eval sl = v) (hown : OwnS w B v l) (A : Option Addr) (n cap : Nat) (hn : l'.length = n) (hx : a.eval x = .slice A n cap) (hS : Strs w B' A l')
    (hlen : l.length + n < 1099511627776) (hB : B ≤ w.heap.size)
    (h : ∀ v' w', OwnS w' B v' (l ++ l') → Below B w w' → w.grownBy w' v.ownBlock → K (a.put o.dst v') w') : o.wp Tryz.prog a w K Q := by
  subst hn
  obtain ⟨i, h1, h2, h3, h4⟩ := info_parts strInfo
  have hown' := hown
  unfold OwnS OwnV at hown
  rw [List.length_map] at hown
  cases A with
  | none =>
    have h0 : l' = [] := by
      cases l' with
      | nil => rfl
      | cons y r =>
        obtain ⟨b, off, e, _⟩ := hS.at_ (by simp)
        cases e
    subst h0
    have hrun := run_append_none (P := Tryz.prog) B 27 o.type 9 i 1 Tryz.underlying27 h1 v l.length _ hown cap
    unfold Oper.wp execOp
    simp only [ho, resolve, invoke, builtin, Sem.run_bind, Sem.run_pure, Result.andThen_ok, List.map_toArray, List.map_cons, List.map_nil, hs, hx, List.length_nil, hrun]
    exact h v w (by rw [List.append_nil]; exact hown') (Below.refl _ _) (World.grownBy.refl w _)
  | some ad =>
    obtain ⟨v', w', hr, h5, h6, _, _⟩ := run_append_own_at (P := Tryz.prog) w B 27 o.type 9 i _ 1 16 Tryz.underlying27 h1 h2 h3 h4 rfl (by omega) v l.length _ hown ad l'.length cap (l'.map .string) (by rw [List.length_map, Nat.mul_one]) (fun j u hj => by
      rw [List.getElem?_map] at hj
      cases hq : l'[j]? with
      | none => rw [hq] at hj; cases hj
      | some s =>
        rw [hq] at hj
        obtain rfl : Value.string s = u := by simpa using hj
        obtain ⟨b, off, e, _, hc⟩ := hS.at_ (by have := (List.getElem?_eq_some_iff.1 hq).1; omega)
        cases e
        rw [addr_off]
        exact hc j s hq) (fun u hu => by obtain ⟨s, _, rfl⟩ := List.mem_map.1 hu; rfl) (by unfold maxLen; omega) (by omega) hB
    unfold Oper.wp execOp
    simp only [ho, resolve, invoke, builtin, Sem.run_bind, Sem.run_pure, Result.andThen_ok, List.map_toArray, List.map_cons, List.map_nil, hs, hx, hr]
    refine h v' w' ?_ (below_own hown h6 hB) h6
    unfold OwnS OwnV
    rw [List.length_map, List.length_append, List.map_append]
    exact h5
theorem step_ad {w : World} {ops : Array Oper} {o : Oper} {a : Act} {K : Act → World → Prop} {Q : Exit → Act → World → Prop} {E : Prop} (hgd : Region.wanted o (yielded ops a.tmps) = true) (sl x : Operand)
    (ho : o.op = .call { callee := .builtin .append, args := #[sl, x], argTypes := #[27, 27] })
    (B B' : Nat) (v : Value) (l l' : List ByteArray) (hs : a.eval sl = v) (hown : OwnS w B v l) (A : Option Addr) (n cap : Nat) (hn : l'.length = n) (hx : a.eval x = .slice A n cap) (hS : Strs w B' A l')
    (hlen : l.length + n < 1099511627776) (hB : B ≤ w.heap.size)
    (h : ∀ v' w', OwnS w' B v' (l ++ l') → Below B w w' → w.grownBy w' v.ownBlock → K (a.put o.dst v') w') :
    if Region.wanted o (yielded ops a.tmps) = true then Oper.wp Tryz.prog o a w K Q else E := by
  rw [if_pos hgd]
  exact wp_ad sl x ho B B' v l l' hs hown A n cap hn hx hS hlen hB h
/-- One string by its cell, where the operation is wanted. -/
theorem step_cw {w : World} {ops : Array Oper} {o : Oper} {a : Act} {K : Act → World → Prop} {Q : Exit → Act → World → Prop} {E : Prop} (hgd : Region.wanted o (yielded ops a.tmps) = true) (sl x : Operand)
    (ho : o.op = .call { callee := .builtin .append, args := #[sl, x], argTypes := #[27, 27] })
    (s : ByteArray) (B : Nat) (v : Value) (l : List ByteArray) (hs : a.eval sl = v) (hown : OwnS w B v l) (ad : Addr) (c : Nat) (hx : a.eval x = .slice (some ad) 1 c) (hc : w.cell? ad = some (.string s))
    (hlen : l.length < 1099511627776) (hB : B ≤ w.heap.size) (n : Nat) (hn : l.length + 1 = n)
    (h : ∀ g cap w', OwnS w' B (.slice (some ⟨g, 0, none⟩) n cap) (l ++ [s]) → Below B w w' → K (a.put o.dst (.slice (some ⟨g, 0, none⟩) n cap)) w') :
    if Region.wanted o (yielded ops a.tmps) = true then Oper.wp Tryz.prog o a w K Q else E := by
  subst hn
  obtain ⟨i, h1, h2, h3, h4⟩ := info_parts strInfo
  unfold OwnS OwnV at hown
  rw [List.length_map] at hown
  rw [if_pos hgd]
  refine wp_append_lies w sl x 27 ho B 9 i _ 1 16 Tryz.underlying27 h1 h2 h3 h4 rfl (by omega) v l.length _ hs hown ad 1 c [.string s] hx rfl ?_ ?_ (by omega) (by unfold maxLen; omega) (by omega) hB w.heap.size rfl fun g cap w' h5 h6 _ _ => h g cap w' ?_ (below_own hown h6 hB)
  · intro j u' hj
    rcases j with _ | j
    · obtain rfl : Value.string s = u' := by simpa using hj
      have : ad.add 0 = ad := by unfold Addr.add; simp
      rw [this]; exact hc
    · simp at hj
  · intro u' hu'
    obtain rfl : u' = Value.string s := by simpa using hu'
    rfl
  · unfold OwnS OwnV
    rw [List.length_map, List.length_append, List.map_append, List.length_singleton]
    exact h5
/-- A literal's cell behind an append that may have written another row. -/
theorem lit_far {W wF : World} {bl g0 : Nat} {s : ByteArray} (hc : W.cell? ⟨bl, 0, none⟩ = some (.string s)) (hgr : W.grownBy wF (some g0)) (hne : bl ≠ g0) : wF.cell? ⟨bl, 0, none⟩ = some (.string s) := by
  rw [hgr.cell_far ⟨bl, 0, none⟩ (World.block_lt_of_cell? W _ hc) (fun h => hne (Option.some.inj h))]
  exact hc
theorem OwnS.grown {w w' : World} {B g n cap ga : Nat} {l : List ByteArray} (h : OwnS w B (.slice (some ⟨g, 0, none⟩) n cap) l) (hg : w.grownBy w' (some ga)) (hne : ga ≠ g) : OwnS w' B (.slice (some ⟨g, 0, none⟩) n cap) l := by
  have hb := h.bounds
  obtain ⟨h1, h2⟩ := h
  refine ⟨h1, ?_⟩
  rcases h2 with ⟨h2, _⟩ | ⟨g', cap', cur, hv, hB, hh, r⟩
  · injection h2 with h2 _ _; cases h2
  · have hv' := hv
    injection hv with hv _ _
    injection hv with hv
    injection hv with hv _ _
    subst hv
    exact Or.inr ⟨g, cap', cur, hv', hB, by rw [hg.block g hb.2 (fun e => hne (Option.some.inj e).symm)]; exact hh, r⟩
/-- The same in a plain region; what comes is not empty. -/
theorem step_aw {w : World} {ops : Array Oper} {rest : List Oper} {o : Oper} {a : Act} {Q : Exit → Act → World → Prop} (hgd : Region.wanted o (yielded ops a.tmps) = true) (sl x : Operand)
    (ho : o.op = .call { callee := .builtin .append, args := #[sl, x], argTypes := #[27, 27] })
    (B B' : Nat) (v : Value) (l l' : List ByteArray) (hs : a.eval sl = v) (hown : OwnS w B v l) (A : Option Addr) (n cap : Nat) (hn : l'.length = n) (hx : a.eval x = .slice A n cap) (hS : Strs w B' A l')
    (h0 : 0 < l.length) (hlen : l.length + n < 1099511627776) (hB : B ≤ w.heap.size) (k : Nat) (hk : l.length + n = k)
    (h : ∀ g cap w', OwnS w' B (.slice (some ⟨g, 0, none⟩) k cap) (l ++ l') → Below B w w' → wpList Tryz.prog ops Q rest (a.put o.dst (.slice (some ⟨g, 0, none⟩) k cap)) w') : wpList Tryz.prog ops Q (o :: rest) a w := by
  subst hk
  refine wpList_wanted hgd fun K hK => wp_ad sl x ho B B' v l l' hs hown A n cap hn hx hS hlen hB fun v' w' h1 h2 _ => hK _ _ ?_
  obtain ⟨g, c, rfl, _, _⟩ := h1.full (by rw [List.length_append]; omega)
  have e : (l ++ l').length = l.length + n := by rw [List.length_append, hn]
  rw [e] at h1 ⊢
  exact h g c w' h1 h2
end Go.Proofs.YtobhpeockinnjaaGreatDoor
/- Several slices of the call's own at once, in blocks apart: appends to one of them leave the others. Elements of one cell. No conditions. -/
namespace Go.Proofs.YtobhpeockinnjaaGreatDoor
open Go Go.RowKit Go.Sort
/-- The slices rs (value, element type, cells) are the call's own from block B on, and lie in blocks apart. -/
structure OwnL (W : World) (B : Nat) (rs : List (Value × TypeId × List Value)) : Prop where
  own : ∀ r ∈ rs, OwnV W B r.2.1 r.1 r.2.2
  apart : rs.Pairwise fun a b => ∀ g, a.1.ownBlock = some g → b.1.ownBlock ≠ some g
/-- A row of strings. -/
def sR (v : Value) (l : List ByteArray) : Value × TypeId × List Value := (v, 9, l.map .string)
theorem OwnV.lt {W : World} {B g : Nat} {e : TypeId} {v : Value} {xs : List Value} (h : OwnV W B e v xs) (hg : v.ownBlock = some g) : B ≤ g ∧ g < W.heap.size := by
  rcases h.2 with ⟨rfl, _⟩ | ⟨g', cap, cur, rfl, hb, hh, _⟩
  · simp [Value.ownBlock] at hg
  · obtain rfl : g' = g := by simpa [Value.ownBlock] using hg
    exact ⟨hb, (Array.getElem?_eq_some_iff.1 hh).1⟩
theorem OwnL.nil (W : World) (B : Nat) : OwnL W B [] := ⟨fun _ h => (by cases h), List.Pairwise.nil⟩
theorem OwnL.below {W W' : World} {B : Nat} {rs : List (Value × TypeId × List Value)} (h : OwnL W B rs) (hb : Below W.heap.size W W') : OwnL W' B rs :=
  ⟨fun r hr => (h.own r hr).below hb, h.apart⟩
theorem OwnL.perm {W : World} {B : Nat} {rs rs' : List (Value × TypeId × List Value)} (h : OwnL W B rs) (hp : rs.Perm rs') : OwnL W B rs' :=
  ⟨fun r hr => h.own r (hp.mem_iff.2 hr), (hp.pairwise_iff fun hab g hg he => hab g he hg).1 h.apart⟩
theorem OwnL.tail {W : World} {B : Nat} {r : Value × TypeId × List Value} {rs : List (Value × TypeId × List Value)} (h : OwnL W B (r :: rs)) : OwnL W B rs :=
  ⟨fun x hx => h.own x (List.mem_cons_of_mem _ hx), (List.pairwise_cons.1 h.apart).2⟩
theorem OwnL.head {W : World} {B : Nat} {v : Value} {e : TypeId} {xs : List Value} {rs : List (Value × TypeId × List Value)} (h : OwnL W B ((v, e, xs) :: rs)) : OwnV W B e v xs := h.own _ (List.mem_cons_self ..)
theorem OwnL.headS {W : World} {B : Nat} {v : Value} {l : List ByteArray} {rs : List (Value × TypeId × List Value)} (h : OwnL W B (sR v l :: rs)) : OwnS W B v l := h.own _ (List.mem_cons_self ..)
theorem OwnL.swap {W : World} {B : Nat} {a b : Value × TypeId × List Value} {rs : List (Value × TypeId × List Value)} (h : OwnL W B (a :: b :: rs)) : OwnL W B (b :: a :: rs) := h.perm (List.Perm.swap ..)
theorem OwnL.rot3 {W : World} {B : Nat} {a b c : Value × TypeId × List Value} {rs : List (Value × TypeId × List Value)} (h : OwnL W B (a :: b :: c :: rs)) : OwnL W B (c :: a :: b :: rs) := (h.swap.perm ((List.Perm.swap c a rs).cons b)).swap.perm ((List.Perm.swap a b rs).cons c)
theorem OwnL.rot3' {W : World} {B : Nat} {a b c : Value × TypeId × List Value} {rs : List (Value × TypeId × List Value)} (h : OwnL W B (a :: b :: c :: rs)) : OwnL W B (b :: c :: a :: rs) := h.rot3.rot3
/-- A new row: empty, without a block. -/
theorem OwnL.empty {W : World} {B : Nat} {rs : List (Value × TypeId × List Value)} (h : OwnL W B rs) (e : TypeId) : OwnL W B ((.slice none 0 0, e, []) :: rs) :=
  ⟨fun r hr => by
    rcases List.mem_cons.1 hr with rfl | hr
    · exact OwnV.nil W B e
    · exact h.own r hr, List.pairwise_cons.2 ⟨fun b _ g hg => by simp [Value.ownBlock] at hg, h.apart⟩⟩
theorem OwnL.emptyS {W : World} {B : Nat} {rs : List (Value × TypeId × List Value)} (h : OwnL W B rs) : OwnL W B (sR (.slice none 0 0) [] :: rs) := h.empty _
/-- A row that a callee has made. -/
theorem OwnL.made {W W' : World} {B : Nat} {rs : List (Value × TypeId × List Value)} {v : Value} {e : TypeId} {xs : List Value} (h : OwnL W B rs) (hB : B ≤ W.heap.size) (hb : Below W.heap.size W W') (hv : OwnV W' W.heap.size e v xs) : OwnL W' B ((v, e, xs) :: rs) :=
  ⟨fun r hr => by
    rcases List.mem_cons.1 hr with rfl | hr
    · refine ⟨hv.1, ?_⟩
      rcases hv.2 with h1 | ⟨g, cap, cur, h1, h2, h3⟩
      · exact Or.inl h1
      · exact Or.inr ⟨g, cap, cur, h1, Nat.le_trans hB h2, h3⟩
    · exact (h.own r hr).below hb, List.pairwise_cons.2 ⟨fun b hb' g hg he => by
      have h1 := (hv.lt hg).1
      have h2 := ((h.own b hb').lt he).2
      omega, h.apart⟩⟩
/-- Behind an append to the first row. -/
theorem OwnL.app {W W' : World} {B : Nat} {rs : List (Value × TypeId × List Value)} {v v' : Value} {e : TypeId} {xs ys : List Value} (h : OwnL W B ((v, e, xs) :: rs)) (hv : OwnV W' B e v' ys) (hg : W.grownBy W' v.ownBlock) (hat : v'.ownBlock = v.ownBlock ∨ v'.ownBlock = some W.heap.size) : OwnL W' B ((v', e, ys) :: rs) := by
  obtain ⟨h1, h2⟩ := List.pairwise_cons.1 h.apart
  refine ⟨fun r hr => ?_, List.pairwise_cons.2 ⟨fun b hb' g hg' he => ?_, h2⟩⟩
  · rcases List.mem_cons.1 hr with rfl | hr
    · exact hv
    · have h3 := h.own r (List.mem_cons_of_mem _ hr)
      refine World.ownsRow.kept h3 hg ?_
      cases ho : v.ownBlock with
      | none =>
        cases hr2 : r.1.ownBlock with
        | none => exact Or.inl rfl
        | some g => exact Or.inr (by simp)
      | some g => exact Or.inr (h1 r hr g ho)
  · rcases hat with h3 | h3
    · exact h1 b hb' g (h3.symm.trans hg') he
    · rw [h3] at hg'
      cases hg'
      have := ((h.own b (List.mem_cons_of_mem _ hb')).lt he).2
      omega
/-- What is appended: cells that lie in a row, or none. -/
def Src (w : World) (A : Option Addr) (news : List Value) : Prop := (news = [] ∨ ∃ b off, A = some ⟨b, off, none⟩ ∧ ∀ (j : Nat) u, news[j]? = some u → w.cell? ⟨b, off + j, none⟩ = some u) ∧ ∀ u ∈ news, u.oneCell' = true
theorem Src.strs {w : World} {B : Nat} {A : Option Addr} {l : List ByteArray} (h : Strs w B A l) : Src w A (l.map .string) := by
  refine ⟨?_, fun u hu => by obtain ⟨s, _, rfl⟩ := List.mem_map.1 hu; rfl⟩
  rcases Nat.eq_zero_or_pos l.length with h0 | h0
  · exact Or.inl (by rw [List.length_eq_zero_iff.1 h0]; rfl)
  · obtain ⟨b, off, e, _, hc⟩ := h.at_ h0
    refine Or.inr ⟨b, off, e, fun j u hj => ?_⟩
    rw [List.getElem?_map] at hj
    cases hq : l[j]? with
    | none => rw [hq] at hj; cases hj
    | some s => rw [hq] at hj; cases hj; exact hc j s hq
theorem Src.lit (w : World) (cs : Array Value) (T : TypeId) (h1 : ∀ u ∈ cs.toList, u.oneCell' = true) : Src (w.alloc (.cells cs T)) (some ⟨w.heap.size, 0, none⟩) cs.toList :=
  ⟨Or.inr ⟨_, _, rfl, fun j u hj => by rw [cell_of_row _ _ _ _ _ (0, 0) (heap_alloc_new w _), Nat.zero_add, ← Array.getElem?_toList]; exact hj⟩, h1⟩
/-- An append to the first row. -/
theorem wp_al {w : World} {o : Oper} {a : Act} {K : Act → World → Prop} {Q : Exit → Act → World → Prop} (sl x : Operand) (t e : TypeId) (z : Value) (bytes : Nat)
    (ho : o.op = .call { callee := .builtin .append, args := #[sl, x], argTypes := #[t, t] })
    (ht : Tryz.prog.underlying t = some (.slice e)) (hi : (Tryz.prog.info? e).map (fun i => (i.zero, i.size, i.bytes)) = some (some z, 1, bytes)) (hz : z.cells.size = 1) (hby : bytes ≤ 64)
    (B : Nat) (v : Value) (xs : List Value) (rs : List (Value × TypeId × List Value)) (hs : a.eval sl = v) (hL : OwnL w B ((v, e, xs) :: rs)) (A : Option Addr) (n cap : Nat) (news : List Value) (hx : a.eval x = .slice A n cap) (hn : news.length = n) (hsrc : Src w A news)
    (hlen : xs.length + n ≤ 1099511627776) (hB : B ≤ w.heap.size)
    (h : ∀ v' w', OwnL w' B ((v', e, xs ++ news) :: rs) → Below B w w' → K (a.put o.dst v') w') : o.wp Tryz.prog a w K Q := by
  subst hn
  obtain ⟨i, h1, h2, h3, h4⟩ := info_parts hi
  have hown := hL.head
  unfold OwnV at hown
  have hrun0 : ∀ c, (Builtin.append_ #[t, t] o.type #[v, .slice none 0 c]).run Tryz.prog w = .ok v w := fun c => run_append_none (P := Tryz.prog) B t o.type e i 1 ht h1 v xs.length _ hown c
  have key : ∃ v' w', (Builtin.append_ #[t, t] o.type #[v, .slice A news.length cap]).run Tryz.prog w = .ok v' w' ∧ OwnL w' B ((v', e, xs ++ news) :: rs) ∧ Below B w w' := by
    cases A with
    | none =>
      have h0 : news = [] := by
        rcases hsrc.1 with h0 | ⟨_, _, h0, _⟩
        · exact h0
        · cases h0
      subst h0
      exact ⟨v, w, hrun0 cap, by rw [List.append_nil]; exact hL, Below.refl _ _⟩
    | some ad =>
      obtain ⟨v', w', hr, h5, h6, _, h7⟩ := run_append_own_at (P := Tryz.prog) w B t o.type e i z 1 bytes ht h1 h2 h3 h4 hz (by omega) v xs.length xs hown ad news.length cap news (by rw [Nat.mul_one]) (fun j u hj => by
        rcases hsrc.1 with h0 | ⟨b, off, h0, hc⟩
        · rw [h0] at hj; cases hj
        · cases h0
          rw [addr_off]
          exact hc j u hj) hsrc.2 (by unfold maxLen; omega) (by
            have : (xs.length + news.length) * bytes ≤ 1099511627776 * 64 := Nat.mul_le_mul hlen hby
            omega) hB
      refine ⟨v', w', hr, hL.app ?_ h6 h7, below_own hown h6 hB⟩
      unfold OwnV
      rw [List.length_append]
      exact h5
  obtain ⟨v', w', hrun, h5, h6⟩ := key
  unfold Oper.wp execOp
  simp only [ho, resolve, invoke, builtin, Sem.run_bind, Sem.run_pure, Result.andThen_ok, List.map_toArray, List.map_cons, List.map_nil, hs, hx, hrun]
  exact h v' w' h5 h6
/-- An append of a slice of strings, at a step of a list of operations. -/
theorem step_la {w : World} {ops : Array Oper} {rest : List Oper} {o : Oper} {a : Act} {Q : Exit → Act → World → Prop} (hgd : Region.wanted o (yielded ops a.tmps) = true) (sl x : Operand)
    (ho : o.op = .call { callee := .builtin .append, args := #[sl, x], argTypes := #[27, 27] })
    (B B' : Nat) (v : Value) (l l' : List ByteArray) (rs : List (Value × TypeId × List Value)) (hs : a.eval sl = v) (hL : OwnL w B (sR v l :: rs)) (A : Option Addr) (n cap : Nat) (hx : a.eval x = .slice A n cap) (hn : l'.length = n) (hS : Strs w B' A l')
    (hlen : l.length + n ≤ 1099511627776) (hB : B ≤ w.heap.size)
    (h : ∀ v' w', OwnL w' B (sR v' (l ++ l') :: rs) → Below B w w' → wpList Tryz.prog ops Q rest (a.put o.dst v') w') : wpList Tryz.prog ops Q (o :: rest) a w :=
  wpList_wanted hgd fun K hK => wp_al sl x _ _ _ 16 ho Tryz.underlying27 strInfo rfl (by omega) B v _ rs hs hL A n cap (l'.map .string) hx (by rw [List.length_map]; exact hn) (Src.strs hS) (by rw [List.length_map]; exact hlen) hB fun v' w' h1 h2 => hK _ _ (h v' w' (by unfold sR; rw [List.map_append]; exact h1) h2)
/-- An append of strings that a literal lays just before. -/
theorem step_ll {w0 : World} {ops : Array Oper} {rest : List Oper} {o : Oper} {a : Act} {Q : Exit → Act → World → Prop} (hgd : Region.wanted o (yielded ops a.tmps) = true) (sl x : Operand)
    (ho : o.op = .call { callee := .builtin .append, args := #[sl, x], argTypes := #[27, 27] })
    (B : Nat) (v : Value) (l l' : List ByteArray) (rs : List (Value × TypeId × List Value)) (cs : Array Value) (hcs : cs = (l'.map Value.string).toArray) (hs : a.eval sl = v) (hL : OwnL w0 B (sR v l :: rs)) (n cap : Nat) (hx : a.eval x = .slice (some ⟨w0.heap.size, 0, none⟩) n cap) (hn : l'.length = n)
    (hlen : l.length + n ≤ 1099511627776) (hB : B ≤ w0.heap.size)
    (h : ∀ v' w', OwnL w' B (sR v' (l ++ l') :: rs) → Below B w0 w' → wpList Tryz.prog ops Q rest (a.put o.dst v') w') : wpList Tryz.prog ops Q (o :: rest) a (w0.alloc (.cells cs 9)) := by
  subst hcs
  exact step_la hgd sl x ho B _ v l l' rs hs (hL.below ((Below.refl _ _).alloc (Nat.le_refl _) _)) _ n cap hx hn (Strs.new w0 l' _ _ rfl) hlen (by simp; omega) fun v' w' h1 h2 => h v' w' h1 (((Below.refl _ _).alloc hB _).trans h2)
end Go.Proofs.YtobhpeockinnjaaGreatDoor
/- Codes of law in plain Lean: items, what a walk of them keeps open, validity. No program in sight. -/
namespace Go.Proofs.YtobhpeockinnjaaGreatDoor.Dg
open Go
structure It where
  kind : Int
  id : ByteArray
  parent : ByteArray
  number : ByteArray
  north : ByteArray
  south : ByteArray
  gone : Bool
def nil8 : ByteArray := ⟨#[]⟩
def letterB (c : UInt8) : Bool := (97 ≤ c && c ≤ 122) || (65 ≤ c && c ≤ 90)
def digitB (c : UInt8) : Bool := (48 ≤ c && c ≤ 57) || c == 95
/-- A name. -/
def nameL : List UInt8 → Bool
  | [] => false
  | c :: r => letterB c && r.all fun d => letterB d || digitB d
def isNameB (s : ByteArray) : Bool := nameL (L s) && decide (s.size ≤ 24)
def numC (c : UInt8) : Bool := (48 ≤ c && c ≤ 57) || (97 ≤ c && c ≤ 122)
def isNumB (s : ByteArray) : Bool := decide (s.size ≤ 8) && (L s).all numC
/-- An item apart from its place. -/
def properI (x : It) : Bool :=
  if x.kind = 1 then isNumB x.number && (isNameB x.id && (decide (x.north = nil8) && (decide (x.south = nil8) && !x.gone)))
  else if x.kind = 2 then isNumB x.number && (isNameB x.id && (decide (x.north.size ≤ 400) && decide (x.south.size ≤ 400)))
  else false
def inB (l : List ByteArray) (x : ByteArray) : Bool := l.any fun d => decide (d = x)
theorem inB_iff (l : List ByteArray) (x : ByteArray) : inB l x = true ↔ x ∈ l := by
  unfold inB
  rw [List.any_eq_true]
  constructor
  · rintro ⟨d, hd, h⟩
    rw [of_decide_eq_true h] at hd
    exact hd
  · intro h
    exact ⟨x, h, decide_eq_true rfl⟩
theorem inB_no (l : List ByteArray) (x : ByteArray) : inB l x = false ↔ x ∉ l := by
  rw [← inB_iff]; simp
/-- How many of the open divisions stay open for an item. -/
def kOf (op : List ByteArray) (p : ByteArray) : Option Nat := if p = nil8 then some 0 else if inB op p = true then some (op.findIdx (fun d => decide (d = p)) + 1) else none
/-- What a walk has seen, and what is open. -/
structure Wk where
  seen : List ByteArray
  op : List ByteArray
/-- One item: none where the code is not valid. The open divisions at its visit come with it. -/
def stepI (s : Wk) (x : It) : Option (List ByteArray × Wk) :=
  if properI x = true ∧ inB s.seen x.id = false then
    match kOf s.op x.parent with
    | none => none
    | some k => some (s.op.take k, ⟨x.id :: s.seen, if x.kind = 1 then s.op.take k ++ [x.id] else s.op.take k⟩)
  else none
/-- The walk over the first k items: the state, and the open divisions at each visit. -/
def walkTo (l : List It) : Nat → Option (List (List ByteArray) × Wk)
  | 0 => some ([], ⟨[], []⟩)
  | k + 1 => match walkTo l k with
    | none => none
    | some (vs, s) => match l[k]? with
      | none => some (vs, s)
      | some x => match stepI s x with
        | none => none
        | some (o, s') => some (vs ++ [o], s')
def validC (l : List It) : Bool := (walkTo l l.length).isSome && decide (l.length ≤ 2000)
theorem walkTo_succ (l : List It) (k : Nat) (hk : k < l.length) : walkTo l (k + 1) = match walkTo l k with
    | none => none
    | some (vs, s) => match stepI s l[k] with
      | none => none
      | some (o, s') => some (vs ++ [o], s') := by
  rw [walkTo]
  cases walkTo l k with
  | none => rfl
  | some p => rw [List.getElem?_eq_getElem hk]
theorem stepI_some {s : Wk} {x : It} {o : List ByteArray} {s' : Wk} (h : stepI s x = some (o, s')) : properI x = true ∧ x.id ∉ s.seen ∧ ∃ k, kOf s.op x.parent = some k ∧ o = s.op.take k ∧ s'.seen = x.id :: s.seen ∧ s'.op = if x.kind = 1 then o ++ [x.id] else o := by
  unfold stepI at h
  split at h
  · rename_i hp
    split at h
    · cases h
    · rename_i k hk
      injection h with h
      injection h with h1 h2
      subst h1 h2
      exact ⟨hp.1, (inB_no _ _).1 hp.2, k, hk, rfl, rfl, rfl⟩
  · cases h
/-- A walk that has come to k + 1 has come to k. -/
theorem walk_step {l : List It} {k : Nat} (hk : k < l.length) {vs : List (List ByteArray)} {s' : Wk} (h : walkTo l (k + 1) = some (vs, s')) : ∃ vs0 s o, walkTo l k = some (vs0, s) ∧ stepI s l[k] = some (o, s') ∧ vs = vs0 ++ [o] := by
  rw [walkTo_succ l k hk] at h
  cases hw : walkTo l k with
  | none => rw [hw] at h; cases h
  | some p =>
    obtain ⟨vs0, s⟩ := p
    rw [hw] at h
    simp only at h
    cases hs : stepI s l[k] with
    | none => rw [hs] at h; cases h
    | some q =>
      obtain ⟨o, s2⟩ := q
      rw [hs] at h
      simp only [Option.some.injEq, Prod.mk.injEq] at h
      obtain ⟨rfl, rfl⟩ := h
      exact ⟨vs0, s, o, rfl, hs, rfl⟩
theorem walk_len {l : List It} : ∀ {k : Nat} (_ : k ≤ l.length) {vs : List (List ByteArray)} {s : Wk}, walkTo l k = some (vs, s) → vs.length = k
  | 0, _, vs, s, h => by cases h; rfl
  | k + 1, hk, vs, s, h => by
    obtain ⟨vs0, s0, o, h1, _, rfl⟩ := walk_step (by omega) h
    rw [List.length_append, walk_len (by omega) h1]
    rfl
/-- A walk goes on from a walk. -/
theorem walk_le {l : List It} : ∀ {n : Nat} (_ : n ≤ l.length) {vs : List (List ByteArray)} {s : Wk}, walkTo l n = some (vs, s) → ∀ k ≤ n, ∃ s0, walkTo l k = some (vs.take k, s0)
  | 0, _, vs, s, h, k, hk => by
    obtain rfl : k = 0 := by omega
    cases h
    exact ⟨_, rfl⟩
  | n + 1, hn, vs, s, h, k, hk => by
    obtain ⟨vs0, s0, o, h1, _, rfl⟩ := walk_step (by omega) h
    have hl := walk_len (by omega) h1
    by_cases e : k = n + 1
    · subst e
      exact ⟨s, by rw [List.take_of_length_le (by rw [List.length_append, hl]; simp)]; exact h⟩
    · obtain ⟨s1, h2⟩ := walk_le (by omega) h1 k (by omega)
      exact ⟨s1, by rw [List.take_append_of_le_length (by omega)]; exact h2⟩
/-- What has been seen: the names of the items, the last one first; what is open has been seen. -/
theorem walk_seen {l : List It} : ∀ {k : Nat} (_ : k ≤ l.length) {vs : List (List ByteArray)} {s : Wk}, walkTo l k = some (vs, s) → s.seen = ((l.take k).map It.id).reverse ∧ s.seen.Nodup ∧ (∀ x ∈ s.op, x ∈ s.seen) ∧ (∀ o ∈ vs, ∀ x ∈ o, x ∈ s.seen)
  | 0, _, vs, s, h => by cases h; exact ⟨rfl, List.nodup_nil, by simp, by simp⟩
  | k + 1, hk, vs, s, h => by
    have hk' : k < l.length := by omega
    obtain ⟨vs0, s0, o, h1, h2, rfl⟩ := walk_step hk' h
    obtain ⟨a1, a2, a3, a4⟩ := walk_seen (by omega) h1
    obtain ⟨_, b2, k', _, b4, b5, b6⟩ := stepI_some h2
    have ho : ∀ x ∈ o, x ∈ s0.seen := fun x hx => a3 x (by rw [b4] at hx; exact List.mem_of_mem_take hx)
    refine ⟨?_, ?_, fun x hx => ?_, fun o' ho' x hx => ?_⟩
    · rw [b5, a1, List.take_succ_eq_append_getElem hk', List.map_append, List.reverse_append]; rfl
    · rw [b5]; exact List.nodup_cons.2 ⟨b2, a2⟩
    · rw [b6] at hx
      rw [b5]
      split at hx
      · rcases List.mem_append.1 hx with h | h
        · exact List.mem_cons_of_mem _ (ho x h)
        · rw [List.mem_singleton.1 h]; exact List.mem_cons_self ..
      · exact List.mem_cons_of_mem _ (ho x hx)
    · rw [b5]
      rcases List.mem_append.1 ho' with h | h
      · exact List.mem_cons_of_mem _ (a4 o' h x hx)
      · rw [List.mem_singleton.1 h] at hx; exact List.mem_cons_of_mem _ (ho x hx)
end Go.Proofs.YtobhpeockinnjaaGreatDoor.Dg
/- Items of a code in memory; what a visit may write. No conditions but those that each theorem states. -/
namespace Go.Proofs.YtobhpeockinnjaaGreatDoor
open Go Go.RowKit Go.Sort Go.Maps
/-- But for the blocks of S, and new ones, the world is as it was. -/
structure Off (S : List Nat) (w w' : World) : Prop where
  os : w'.os = w.os
  tape : w'.tape = w.tape
  output : w'.output = w.output
  size : w.heap.size ≤ w'.heap.size
  block : ∀ k, k < w.heap.size → k ∉ S → w'.heap[k]? = w.heap[k]?
theorem Off.refl (S : List Nat) (w : World) : Off S w w := ⟨rfl, rfl, rfl, Nat.le_refl _, fun _ _ _ => rfl⟩
theorem Off.trans {S T : List Nat} {a b c : World} (h : Off S a b) (k : Off T b c) (hT : ∀ g ∈ T, g ∈ S ∨ a.heap.size ≤ g) : Off S a c :=
  ⟨k.os.trans h.os, k.tape.trans h.tape, k.output.trans h.output, Nat.le_trans h.size k.size, fun i hi hn => (k.block i (Nat.lt_of_lt_of_le hi h.size) fun hm => by
    rcases hT i hm with h1 | h1
    · exact hn h1
    · omega).trans (h.block i hi hn)⟩
theorem Off.of_below {S : List Nat} {w w' : World} (h : Below w.heap.size w w') : Off S w w' := ⟨h.os, h.tape, h.output, h.size, fun k hk _ => h.block k hk⟩
theorem Off.below {S : List Nat} {w w' : World} {B : Nat} (h : Off S w w') (hB : B ≤ w.heap.size) (hS : ∀ g ∈ S, B ≤ g) : Below B w w' :=
  ⟨h.os, h.tape, h.output, h.size, fun k hk => h.block k (by omega) fun hm => by have := hS k hm; omega⟩
theorem Off.nil {w w' : World} (h : Off [] w w') : Below w.heap.size w w' := h.below (Nat.le_refl _) (fun _ h => by cases h)
theorem Off.of_grown {S : List Nat} {w w' : World} {row : Option Nat} (h : w.grownBy w' row) (hr : ∀ k, row = some k → k ∈ S) : Off S w w' :=
  ⟨h.os, h.tape, h.output, h.size, fun k hk hn => h.block k hk fun e => hn (hr k e.symm)⟩
theorem Off.setCell {S : List Nat} {a w : World} (h : Off S a w) {p : Addr} (hp : p.block ∈ S) (u : Value) : Off S a (w.setCell p u) :=
  ⟨h.os, h.tape, h.output, Nat.le_trans h.size (by simp [World.setCell]), fun k hk hn => (Below.heap_setCell _ _ _ _ (fun e => hn (by rw [e]; exact hp))).trans (h.block k hk hn)⟩
theorem Off.next {S : List Nat} {a w w' : World} (h : Off S a w) (hb : Below w.heap.size w w') : Off S a w' := h.trans (Off.of_below (S := S) hb) (fun _ hg => Or.inl hg)
theorem Off.row {S : List Nat} {w w' : World} {g : Nat} {o : Obj} (h : Off S w w') (hg : w.heap[g]? = some o) (hn : g ∉ S) : w'.heap[g]? = some o := (h.block g (lt_of_block hg) hn).trans hg
theorem OwnV.off {S : List Nat} {w w' : World} {B : Nat} {e : TypeId} {v : Value} {xs : List Value} (h : OwnV w B e v xs) (ho : Off S w w') (hn : ∀ g ∈ S, v.ownBlock ≠ some g) : OwnV w' B e v xs := by
  obtain ⟨h1, h2⟩ := h
  refine ⟨h1, ?_⟩
  rcases h2 with h2 | ⟨g, cap, cur, hv, hg, hh, r⟩
  · exact Or.inl h2
  · exact Or.inr ⟨g, cap, cur, hv, hg, ho.row hh (fun hm => hn g hm (by rw [hv]; rfl)), r⟩
theorem ownsMap_off {H : Type} {S : List Nat} {w w' : World} {P : Program} {k : TypeId} {R : Value → Option (DataW H × List MemPlace)} {b n : Nat} {D : DataW H} (h : w.ownsMap P k R b n D) (ho : Off S w w') (hn : b ∉ S) : w'.ownsMap P k R b n D := by
  obtain ⟨es, clock, h1, h2⟩ := h
  exact ⟨es, clock, ho.row h1 hn, h2⟩
theorem iCells {w : World} {g : Nat} {a0 a1 a2 a3 a4 a5 a6 : Value} {T : TypeId} (h : w.heap[g]? = some (.cells #[a0, a1, a2, a3, a4, a5, a6] T (0, 0))) :
    w.cell? ⟨g, 0, none⟩ = some a0 ∧ w.cell? ⟨g, 1, none⟩ = some a1 ∧ w.cell? ⟨g, 2, none⟩ = some a2 ∧ w.cell? ⟨g, 3, none⟩ = some a3 ∧ w.cell? ⟨g, 4, none⟩ = some a4 ∧ w.cell? ⟨g, 5, none⟩ = some a5 ∧ w.cell? ⟨g, 6, none⟩ = some a6 := by
  refine ⟨?_, ?_, ?_, ?_, ?_, ?_, ?_⟩ <;> (rw [cell_of_row _ _ _ _ _ (0, 0) h]; rfl)
theorem iNext {w w' : World} {g : Nat} {o : Obj} (h : w.heap[g]? = some o) (hb : Below w.heap.size w w') : w'.heap[g]? = some o := (hb.block g (lt_of_block h)).trans h
/-- The cells of an item. -/
def itV (x : Dg.It) : Array Value := #[.int .i64 x.kind, .string x.id, .string x.parent, .string x.number, .string x.north, .string x.south, .bool x.gone]
/-- What an item must be like for the walks: its kind in its range, texts of a moderate size. -/
structure ItW (x : Dg.It) : Prop where
  k0 : -9223372036854775808 ≤ x.kind
  k1 : x.kind ≤ 9223372036854775807
  iz : x.id.size ≤ 9223372036854775807
  pz : x.parent.size ≤ 9223372036854775807
  nz : x.number.size ≤ 9223372036854775807
  oz : x.north.size ≤ 9223372036854775807
  sz : x.south.size ≤ 9223372036854775807
/-- A slice of items. -/
structure Its (w : World) (B : Nat) (A : Option Addr) (l : List Dg.It) : Prop where
  at_ : 0 < l.length → ∃ b off, A = some ⟨b, off, none⟩ ∧ b < B ∧ ∀ (j : Nat) (x : Dg.It), l[j]? = some x → ∀ (i : Nat) (u : Value), (itV x)[i]? = some u → w.cell? ⟨b, off + j * 7 + i, none⟩ = some u
theorem Its.nil (w : World) (B : Nat) (A : Option Addr) : Its w B A [] := ⟨fun h => by simp at h⟩
theorem Its.below {w w' : World} {B : Nat} {A : Option Addr} {l : List Dg.It} (h : Its w B A l) (hb : Below B w w') : Its w' B A l :=
  ⟨fun h0 => by
    obtain ⟨b, off, e, hlt, hc⟩ := h.at_ h0
    exact ⟨b, off, e, hlt, fun j x hj i u hu => (hb.cell (p := ⟨b, off + j * 7 + i, none⟩) hlt).trans (hc j x hj i u hu)⟩⟩
theorem Its.more {w : World} {B B' : Nat} {A : Option Addr} {l : List Dg.It} (h : Its w B A l) (hB : B ≤ B') : Its w B' A l :=
  ⟨fun h0 => by
    obtain ⟨b, off, e, hlt, hc⟩ := h.at_ h0
    exact ⟨b, off, e, by omega, hc⟩⟩
theorem Its.keep {w w' : World} {A : Option Addr} {l : List Dg.It} (h : Its w w.heap.size A l) (hb : Below w.heap.size w w') : Its w' w'.heap.size A l := (h.below hb).more hb.size
theorem Its.get {w : World} {B : Nat} {A : Option Addr} {l : List Dg.It} (h : Its w B A l) {k : Nat} (hk : k < l.length) : ∃ b off, A = some ⟨b, off, none⟩ ∧ b < B ∧ ∀ (i : Nat) (u : Value), (itV l[k])[i]? = some u → w.cell? ⟨b, off + k * 7 + i, none⟩ = some u := by
  obtain ⟨b, off, e, hb, hc⟩ := h.at_ (by omega)
  exact ⟨b, off, e, hb, hc k l[k] (List.getElem?_eq_getElem hk)⟩
/-- The first ones of the items. -/
theorem Its.take {w : World} {B : Nat} {A : Option Addr} {l : List Dg.It} (h : Its w B A l) (k : Nat) : Its w B A (l.take k) :=
  ⟨fun h0 => by
    rw [List.length_take] at h0
    obtain ⟨b, off, e, hb, hc⟩ := h.at_ (by omega)
    exact ⟨b, off, e, hb, fun j x hj => hc j x (by rw [List.getElem?_take] at hj; split at hj; exact hj; cases hj)⟩⟩
end Go.Proofs.YtobhpeockinnjaaGreatDoor
/- isName and proper of package code: names, numbers, items apart from their place. No conditions but those that each theorem states. -/
namespace Go.Proofs.YtobhpeockinnjaaGreatDoor
open Go Go.RowKit Go.Sort
theorem nameL_iff (l : List UInt8) : Dg.nameL l = true ↔ l ≠ [] ∧ ∀ (j : Nat) (c : UInt8), l[j]? = some c → Dg.letterB c = true ∨ (0 < j ∧ Dg.digitB c = true) := by
  cases l with
  | nil => simp [Dg.nameL]
  | cons d r =>
    rw [Dg.nameL, Bool.and_eq_true, List.all_eq_true]
    constructor
    · rintro ⟨h1, h2⟩
      refine ⟨by simp, fun j c hj => ?_⟩
      cases j with
      | zero => simp at hj; subst hj; exact Or.inl h1
      | succ j =>
        have hm := List.mem_of_getElem? (show r[j]? = some c by simpa using hj)
        have h3 := h2 c hm
        rw [Bool.or_eq_true] at h3
        exact h3.imp id (fun h => ⟨by omega, h⟩)
    · rintro ⟨_, h⟩
      refine ⟨by
        rcases h 0 d rfl with h1 | ⟨h1, _⟩
        · exact h1
        · omega, fun c hc => ?_⟩
      obtain ⟨j, hj⟩ := List.getElem?_of_mem hc
      have h3 := h (j + 1) c (by simpa using hj)
      rw [Bool.or_eq_true]
      exact h3.imp id (fun h => h.2)
/-- The bytes of a name so far. -/
def nmTo (l : List UInt8) (k : Nat) : Prop := ∀ (j : Nat) (c : UInt8), j < k → l[j]? = some c → Dg.letterB c = true ∨ (0 < j ∧ Dg.digitB c = true)
theorem nmTo_zero (l : List UInt8) : nmTo l 0 := fun _ _ h => by omega
theorem nmTo_succ {l : List UInt8} {k : Nat} {c : UInt8} (h : nmTo l k) (hc : l[k]? = some c) (h2 : Dg.letterB c = true ∨ (0 < k ∧ Dg.digitB c = true)) : nmTo l (k + 1) := fun j d hj hd => by
  by_cases e : j = k
  · subst e; rw [hc] at hd; cases hd; exact h2
  · exact h j d (by omega) hd
theorem nm_bad {s : ByteArray} {k : Nat} {c : UInt8} (hc : (Dg.L s)[k]? = some c) (h1 : Dg.letterB c = false) (h2 : k = 0 ∨ Dg.digitB c = false) : Dg.isNameB s = false := by
  unfold Dg.isNameB
  rw [Bool.and_eq_false_iff]
  left
  rw [Bool.eq_false_iff]
  intro h
  rcases ((nameL_iff _).1 h).2 k c hc with h3 | ⟨h3, h4⟩
  · rw [h1] at h3; cases h3
  · rcases h2 with h2 | h2
    · omega
    · rw [h2] at h4; cases h4
theorem nm_good {s : ByteArray} (h : nmTo (Dg.L s) s.size) : Dg.isNameB s = (decide (0 < s.size) && decide (s.size ≤ 24)) := by
  unfold Dg.isNameB
  congr 1
  by_cases h0 : 0 < s.size
  · rw [decide_eq_true h0]
    refine (nameL_iff _).2 ⟨fun e => ?_, fun j c hj => h j c ?_ hj⟩
    · have := Dg.len_L s; rw [e] at this; simp at this; omega
    · have := (List.getElem?_eq_some_iff.1 hj).1
      rw [Dg.len_L] at this; exact this
  · rw [decide_eq_false h0]
    have : Dg.L s = [] := List.length_eq_zero_iff.1 (by rw [Dg.len_L]; omega)
    rw [this]; rfl
/-- The ways of a byte. -/
theorem byte_cls (c : UInt8) : (97 ≤ c.toNat ∧ c.toNat ≤ 122 ∧ Dg.letterB c = true) ∨ (65 ≤ c.toNat ∧ c.toNat ≤ 90 ∧ Dg.letterB c = true) ∨ (c.toNat = 95 ∧ Dg.letterB c = false ∧ Dg.digitB c = true) ∨
    (48 ≤ c.toNat ∧ c.toNat ≤ 57 ∧ Dg.letterB c = false ∧ Dg.digitB c = true) ∨ (c.toNat < 48 ∧ Dg.letterB c = false ∧ Dg.digitB c = false) ∨ (57 < c.toNat ∧ c.toNat < 65 ∧ Dg.letterB c = false ∧ Dg.digitB c = false) ∨
    (90 < c.toNat ∧ c.toNat < 97 ∧ c.toNat ≠ 95 ∧ Dg.letterB c = false ∧ Dg.digitB c = false) ∨ (122 < c.toNat ∧ Dg.letterB c = false ∧ Dg.digitB c = false) := by
  have e1 : Dg.letterB c = decide ((97 ≤ c.toNat ∧ c.toNat ≤ 122) ∨ (65 ≤ c.toNat ∧ c.toNat ≤ 90)) := by
    unfold Dg.letterB
    simp [UInt8.le_iff_toNat_le]
  have e2 : Dg.digitB c = decide ((48 ≤ c.toNat ∧ c.toNat ≤ 57) ∨ c.toNat = 95) := by
    unfold Dg.digitB
    have : (c == 95) = decide (c.toNat = 95) := by
      rw [Bool.eq_iff_iff, beq_iff_eq, decide_eq_true_eq]
      exact ⟨fun h => by rw [h]; rfl, fun h => UInt8.toNat_inj.1 h⟩
    rw [this]
    simp [UInt8.le_iff_toNat_le]
  rw [e1, e2]
  simp only [decide_eq_true_eq, decide_eq_false_iff_not]
  omega
theorem byte_at {s : ByteArray} {k : Nat} (h : k < s.size) : (Dg.L s)[k]? = some (s[k]'h) := by
  show s.data.toList[k]? = _
  rw [Array.getElem?_toList]
  exact Array.getElem?_eq_getElem h
set_option maxHeartbeats 8000000 in
theorem isName_any (s : ByteArray) (R : Bool) (hR : Dg.isNameB s = R) (hs : s.size ≤ 9223372036854775807) (w : World) :
    Calls Tryz.prog 153 #[.string s] w fun e w' => e = .returned (.bool R) ∧ w' = w := by
  have HR := hide hR; clear hR
  go_enter Tryz.func153, Tryz.ntmps153
  go_wp2
  go_loop [9] (fun i => ∃ k : Nat, k ≤ s.size ∧ i = .int .i64 k ∧ Hid (nmTo (Dg.L s) k)) (fun i => s.size - (intOf i).toNat)
  case atStart => exact ⟨0, by omega, rfl, nmTo_zero _⟩
  case round =>
    obtain ⟨k, hk, rfl, hm⟩ := hrel
    by_cases hlt : k < s.size
    · have hc := byte_at hlt
      obtain ⟨c, hcc⟩ : ∃ c, s[k]'hlt = c := ⟨_, rfl⟩
      rw [hcc] at hc
      have HC := hide hc; clear hc
      have k0 : ((k : Int) == 0) = decide (k = 0) := by rw [Bool.eq_iff_iff, beq_iff_eq, decide_eq_true_eq]; omega
      rcases byte_cls c with ⟨b0, b1, hl⟩ | ⟨b0, b1, hl⟩ | ⟨b0, hl, hd⟩ | ⟨b0, b1, hl, hd⟩ | ⟨b0, hl, hd⟩ | ⟨b0, b1, hl, hd⟩ | ⟨b0, b1, b2, hl, hd⟩ | ⟨b0, hl, hd⟩
      · have q0 : 97 ≤ (c.toNat : Int) := by omega
        have q1 : (c.toNat : Int) ≤ 122 := by omega
        have q2 : 65 ≤ (c.toNat : Int) := by omega
        have q3 : ¬ (c.toNat : Int) ≤ 90 := by omega
        have q4 : 48 ≤ (c.toNat : Int) := by omega
        have q5 : ¬ (c.toNat : Int) ≤ 57 := by omega
        have q6 : ((c.toNat : Int) == 95) = false := by rw [beq_eq_false_iff_ne, ne_eq]; omega
        have HL := hide (show Dg.letterB c = true ∨ (0 < k ∧ Dg.digitB c = true) from Or.inl hl)
        clear hl b0 b1
        go_wp2
        go_round
        case rel => exact ⟨k + 1, by omega, by go_num, nmTo_succ hm.out HC.out HL.out⟩
        case measure => simp [intOf]; omega
      · have q0 : ¬ 97 ≤ (c.toNat : Int) := by omega
        have q1 : (c.toNat : Int) ≤ 122 := by omega
        have q2 : 65 ≤ (c.toNat : Int) := by omega
        have q3 : (c.toNat : Int) ≤ 90 := by omega
        have q4 : 48 ≤ (c.toNat : Int) := by omega
        have q5 : ¬ (c.toNat : Int) ≤ 57 := by omega
        have q6 : ((c.toNat : Int) == 95) = false := by rw [beq_eq_false_iff_ne, ne_eq]; omega
        have HL := hide (show Dg.letterB c = true ∨ (0 < k ∧ Dg.digitB c = true) from Or.inl hl)
        clear hl b0 b1
        go_wp2
        go_round
        case rel => exact ⟨k + 1, by omega, by go_num, nmTo_succ hm.out HC.out HL.out⟩
        case measure => simp [intOf]; omega
      · have q0 : ¬ 97 ≤ (c.toNat : Int) := by omega
        have q1 : (c.toNat : Int) ≤ 122 := by omega
        have q2 : 65 ≤ (c.toNat : Int) := by omega
        have q3 : ¬ (c.toNat : Int) ≤ 90 := by omega
        have q4 : 48 ≤ (c.toNat : Int) := by omega
        have q5 : ¬ (c.toNat : Int) ≤ 57 := by omega
        have q6 : ((c.toNat : Int) == 95) = true := by rw [beq_iff_eq]; omega
        by_cases kz : k = 0
        · have HL := hide (show Dg.letterB c = false ∧ (k = 0 ∨ Dg.digitB c = false) from ⟨hl, Or.inl kz⟩)
          clear hl hd b0
          have kb : decide (k = 0) = true := decide_eq_true kz
          clear kz
          go_wp2
          go_ret
          exact ⟨ret_bool (HR.out.symm.trans (nm_bad HC.out HL.out.1 HL.out.2)).symm, rfl⟩
        · have HL := hide (show Dg.letterB c = true ∨ (0 < k ∧ Dg.digitB c = true) from Or.inr ⟨by omega, hd⟩)
          clear hl hd b0
          have kb : decide (k = 0) = false := decide_eq_false kz
          clear kz
          go_wp2
          go_round
          case rel => exact ⟨k + 1, by omega, by go_num, nmTo_succ hm.out HC.out HL.out⟩
          case measure => simp [intOf]; omega
      · have q0 : ¬ 97 ≤ (c.toNat : Int) := by omega
        have q1 : (c.toNat : Int) ≤ 122 := by omega
        have q2 : ¬ 65 ≤ (c.toNat : Int) := by omega
        have q3 : (c.toNat : Int) ≤ 90 := by omega
        have q4 : 48 ≤ (c.toNat : Int) := by omega
        have q5 : (c.toNat : Int) ≤ 57 := by omega
        have q6 : ((c.toNat : Int) == 95) = false := by rw [beq_eq_false_iff_ne, ne_eq]; omega
        by_cases kz : k = 0
        · have HL := hide (show Dg.letterB c = false ∧ (k = 0 ∨ Dg.digitB c = false) from ⟨hl, Or.inl kz⟩)
          clear hl hd b0 b1
          have kb : decide (k = 0) = true := decide_eq_true kz
          clear kz
          go_wp2
          go_ret
          exact ⟨ret_bool (HR.out.symm.trans (nm_bad HC.out HL.out.1 HL.out.2)).symm, rfl⟩
        · have HL := hide (show Dg.letterB c = true ∨ (0 < k ∧ Dg.digitB c = true) from Or.inr ⟨by omega, hd⟩)
          clear hl hd b0 b1
          have kb : decide (k = 0) = false := decide_eq_false kz
          clear kz
          go_wp2
          go_round
          case rel => exact ⟨k + 1, by omega, by go_num, nmTo_succ hm.out HC.out HL.out⟩
          case measure => simp [intOf]; omega
      · have q0 : ¬ 97 ≤ (c.toNat : Int) := by omega
        have q1 : (c.toNat : Int) ≤ 122 := by omega
        have q2 : ¬ 65 ≤ (c.toNat : Int) := by omega
        have q3 : (c.toNat : Int) ≤ 90 := by omega
        have q4 : ¬ 48 ≤ (c.toNat : Int) := by omega
        have q5 : (c.toNat : Int) ≤ 57 := by omega
        have q6 : ((c.toNat : Int) == 95) = false := by rw [beq_eq_false_iff_ne, ne_eq]; omega
        have HL := hide (show Dg.letterB c = false ∧ (k = 0 ∨ Dg.digitB c = false) from ⟨hl, Or.inr hd⟩)
        clear hl hd b0
        by_cases kz : k = 0
        · have kb : decide (k = 0) = true := decide_eq_true kz
          clear kz
          go_wp2
          go_ret
          exact ⟨ret_bool (HR.out.symm.trans (nm_bad HC.out HL.out.1 HL.out.2)).symm, rfl⟩
        · have kb : decide (k = 0) = false := decide_eq_false kz
          clear kz
          go_wp2
          go_ret
          exact ⟨ret_bool (HR.out.symm.trans (nm_bad HC.out HL.out.1 HL.out.2)).symm, rfl⟩
      · have q0 : ¬ 97 ≤ (c.toNat : Int) := by omega
        have q1 : (c.toNat : Int) ≤ 122 := by omega
        have q2 : ¬ 65 ≤ (c.toNat : Int) := by omega
        have q3 : (c.toNat : Int) ≤ 90 := by omega
        have q4 : 48 ≤ (c.toNat : Int) := by omega
        have q5 : ¬ (c.toNat : Int) ≤ 57 := by omega
        have q6 : ((c.toNat : Int) == 95) = false := by rw [beq_eq_false_iff_ne, ne_eq]; omega
        have HL := hide (show Dg.letterB c = false ∧ (k = 0 ∨ Dg.digitB c = false) from ⟨hl, Or.inr hd⟩)
        clear hl hd b0 b1
        by_cases kz : k = 0
        · have kb : decide (k = 0) = true := decide_eq_true kz
          clear kz
          go_wp2
          go_ret
          exact ⟨ret_bool (HR.out.symm.trans (nm_bad HC.out HL.out.1 HL.out.2)).symm, rfl⟩
        · have kb : decide (k = 0) = false := decide_eq_false kz
          clear kz
          go_wp2
          go_ret
          exact ⟨ret_bool (HR.out.symm.trans (nm_bad HC.out HL.out.1 HL.out.2)).symm, rfl⟩
      · have q0 : ¬ 97 ≤ (c.toNat : Int) := by omega
        have q1 : (c.toNat : Int) ≤ 122 := by omega
        have q2 : 65 ≤ (c.toNat : Int) := by omega
        have q3 : ¬ (c.toNat : Int) ≤ 90 := by omega
        have q4 : 48 ≤ (c.toNat : Int) := by omega
        have q5 : ¬ (c.toNat : Int) ≤ 57 := by omega
        have q6 : ((c.toNat : Int) == 95) = false := by rw [beq_eq_false_iff_ne, ne_eq]; omega
        have HL := hide (show Dg.letterB c = false ∧ (k = 0 ∨ Dg.digitB c = false) from ⟨hl, Or.inr hd⟩)
        clear hl hd b0 b1 b2
        by_cases kz : k = 0
        · have kb : decide (k = 0) = true := decide_eq_true kz
          clear kz
          go_wp2
          go_ret
          exact ⟨ret_bool (HR.out.symm.trans (nm_bad HC.out HL.out.1 HL.out.2)).symm, rfl⟩
        · have kb : decide (k = 0) = false := decide_eq_false kz
          clear kz
          go_wp2
          go_ret
          exact ⟨ret_bool (HR.out.symm.trans (nm_bad HC.out HL.out.1 HL.out.2)).symm, rfl⟩
      · have q0 : 97 ≤ (c.toNat : Int) := by omega
        have q1 : ¬ (c.toNat : Int) ≤ 122 := by omega
        have q2 : 65 ≤ (c.toNat : Int) := by omega
        have q3 : ¬ (c.toNat : Int) ≤ 90 := by omega
        have q4 : 48 ≤ (c.toNat : Int) := by omega
        have q5 : ¬ (c.toNat : Int) ≤ 57 := by omega
        have q6 : ((c.toNat : Int) == 95) = false := by rw [beq_eq_false_iff_ne, ne_eq]; omega
        have HL := hide (show Dg.letterB c = false ∧ (k = 0 ∨ Dg.digitB c = false) from ⟨hl, Or.inr hd⟩)
        clear hl hd b0
        by_cases kz : k = 0
        · have kb : decide (k = 0) = true := decide_eq_true kz
          clear kz
          go_wp2
          go_ret
          exact ⟨ret_bool (HR.out.symm.trans (nm_bad HC.out HL.out.1 HL.out.2)).symm, rfl⟩
        · have kb : decide (k = 0) = false := decide_eq_false kz
          clear kz
          go_wp2
          go_ret
          exact ⟨ret_bool (HR.out.symm.trans (nm_bad HC.out HL.out.1 HL.out.2)).symm, rfl⟩
    · obtain rfl : k = s.size := by omega
      have hg := nm_good hm.out
      rw [HR.out] at hg
      have HG := hide hg
      clear hg hm HR
      by_cases h0 : s.toList = []
      · have hz : s.size = 0 := by
          have := Dg.len_L s
          rw [show Dg.L s = s.toList from (Lib.toList_data s).symm, h0] at this
          exact this.symm
        have HG2 := hide (show false = R by rw [HG.out, hz]; rfl)
        have n0 : s.toList.isEmpty = true := by rw [h0]; rfl
        clear HG hz
        go_wp2
        go_ret
        exact ⟨ret_bool HG2.out, rfl⟩
      · have hz : 0 < s.size := by
          rcases Nat.eq_zero_or_pos s.size with h1 | h1
          · exact absurd (List.length_eq_zero_iff.1 (by rw [Lib.toList_data]; exact (Dg.len_L s).trans h1)) h0
          · exact h1
        have HG2 := hide (show decide ((s.size : Int) ≤ 24) = R by rw [HG.out, decide_eq_true hz, Bool.true_and, Bool.eq_iff_iff, decide_eq_true_eq, decide_eq_true_eq]; omega)
        have n0 : s.toList.isEmpty = false := by rw [Bool.eq_false_iff]; exact fun h => h0 (List.isEmpty_iff.1 h)
        clear HG hz
        go_wp2
        go_ret
        exact ⟨ret_bool HG2.out, rfl⟩
end Go.Proofs.YtobhpeockinnjaaGreatDoor
/- proper of package code: an item apart from its place. No conditions but those that each theorem states. -/
namespace Go.Proofs.YtobhpeockinnjaaGreatDoor
open Go Go.RowKit Go.Sort
def numP (r : Nat) : Bool := !((decide (48 ≤ r) && decide (r ≤ 57)) || (decide (97 ≤ r) && decide (r ≤ 122)))
theorem numC_P (c : UInt8) : Dg.numC c = !numP c.toNat := by
  unfold Dg.numC numP
  simp [UInt8.le_iff_toNat_le]
theorem get_at {s : ByteArray} {k : Nat} (h : k < s.size) : s.get! k = s[k]'h := by
  show s.data[k]! = s.data[k]
  exact getElem!_pos s.data k h
theorem decode_lo (s : ByteArray) (i : Nat) (h : (s.get! i).toNat < 128) : Utf8.decode s i = ((s.get! i).toNat, 1) := by
  unfold Utf8.decode
  simp only [Nat.add_zero]
  rw [if_pos h]
theorem decode_hi (s : ByteArray) (i : Nat) (h : 128 ≤ (s.get! i).toNat) : 128 ≤ (Utf8.decode s i).1 := by
  unfold Utf8.decode
  simp only [Nat.add_zero]
  rw [if_neg (by omega)]
  repeat' split
  all_goals (try simp only [Utf8.runeError, Bool.and_eq_true, decide_eq_true_eq, ge_iff_le] at *)
  all_goals omega
theorem numP_hi {r : Nat} (h : 128 ≤ r) : numP r = true := by
  unfold numP
  rw [show decide (r ≤ 57) = false from decide_eq_false (by omega), show decide (r ≤ 122) = false from decide_eq_false (by omega)]
  simp
theorem num_from (s : ByteArray) : ∀ (f pos : Nat), s.size - pos ≤ f → (0 ≤ Lib.idxFuncFrom numP true s f pos ↔ ∃ (j : Nat) (c : UInt8), pos ≤ j ∧ (Dg.L s)[j]? = some c ∧ Dg.numC c = false)
  | 0, pos, h => by
    rw [Lib.idxFuncFrom]
    constructor
    · intro h1; omega
    · rintro ⟨j, c, h1, h2, _⟩
      have := (List.getElem?_eq_some_iff.1 h2).1
      rw [Dg.len_L] at this
      omega
  | f + 1, pos, h => by
    rw [Lib.idxFuncFrom]
    by_cases hp : pos < s.size
    · rw [if_pos hp]
      have hc := byte_at hp
      have hg := get_at hp
      generalize s[pos] = c at *
      by_cases hlo : c.toNat < 128
      · rw [decode_lo s pos (by rw [hg]; exact hlo), hg]
        by_cases hn : numP c.toNat = true
        · rw [if_pos hn]
          exact ⟨fun _ => ⟨pos, c, Nat.le_refl _, hc, by rw [numC_P, hn]; rfl⟩, fun _ => by omega⟩
        · rw [if_neg hn, num_from s f (pos + 1) (by omega)]
          constructor
          · rintro ⟨j, d, h1, h2⟩
            exact ⟨j, d, by omega, h2⟩
          · rintro ⟨j, d, h1, h2, h3⟩
            refine ⟨j, d, ?_, h2, h3⟩
            rcases Nat.eq_or_lt_of_le h1 with e | e
            · subst e
              rw [hc] at h2
              cases h2
              rw [numC_P, Bool.eq_false_iff.2 hn] at h3
              cases h3
            · omega
      · rw [if_pos (numP_hi (decode_hi s pos (by rw [hg]; omega)))]
        exact ⟨fun _ => ⟨pos, c, Nat.le_refl _, hc, by rw [numC_P, numP_hi (by omega)]; rfl⟩, fun _ => by omega⟩
    · rw [if_neg hp]
      constructor
      · intro h1; omega
      · rintro ⟨j, c, h1, h2, _⟩
        have := (List.getElem?_eq_some_iff.1 h2).1
        rw [Dg.len_L] at this
        omega
theorem num_idx (s : ByteArray) : decide (0 ≤ Lib.idxFunc numP true s) = !((Dg.L s).all Dg.numC) := by
  have h := num_from s s.size 0 (by omega)
  rw [Bool.eq_iff_iff, decide_eq_true_eq, Lib.idxFunc, h, Bool.not_eq_true', List.all_eq_false]
  constructor
  · rintro ⟨j, c, _, h1, h2⟩
    exact ⟨c, List.mem_of_getElem? h1, by rw [h2]; simp⟩
  · rintro ⟨c, h1, h2⟩
    obtain ⟨j, hj⟩ := List.getElem?_of_mem h1
    exact ⟨j, c, Nat.zero_le _, hj, by simpa using h2⟩
theorem num_cls (x : Nat) : (x < 48 ∧ numP x = true) ∨ (48 ≤ x ∧ x ≤ 57 ∧ numP x = false) ∨ (57 < x ∧ x < 97 ∧ numP x = true) ∨ (97 ≤ x ∧ x ≤ 122 ∧ numP x = false) ∨ (122 < x ∧ numP x = true) := by
  have : numP x = !decide ((48 ≤ x ∧ x ≤ 57) ∨ (97 ≤ x ∧ x ≤ 122)) := by
    unfold numP
    simp
  rw [this]
  simp only [Bool.not_eq_true', Bool.not_eq_false', decide_eq_true_eq, decide_eq_false_iff_not]
  omega
set_option maxHeartbeats 4000000 in
theorem num_pred (w : World) : PredAtRunes Tryz.prog 152 #[] numP w := fun W x hx _ => by
  unfold FnGives
  rcases num_cls x with ⟨b0, hr⟩ | ⟨b0, b1, hr⟩ | ⟨b0, b1, hr⟩ | ⟨b0, b1, hr⟩ | ⟨b0, hr⟩
  · rw [hr]
    have q0 : ¬ 48 ≤ (x : Int) := by omega
    have q1 : (x : Int) ≤ 57 := by omega
    have q2 : ¬ 97 ≤ (x : Int) := by omega
    have q3 : (x : Int) ≤ 122 := by omega
    clear b0 hr
    go_enter Tryz.func152, Tryz.ntmps152
    go_wp2
    go_ret
    exact ⟨rfl, 0, rfl⟩
  · rw [hr]
    have q0 : 48 ≤ (x : Int) := by omega
    have q1 : (x : Int) ≤ 57 := by omega
    have q2 : ¬ 97 ≤ (x : Int) := by omega
    have q3 : (x : Int) ≤ 122 := by omega
    clear b0 hr
    go_enter Tryz.func152, Tryz.ntmps152
    go_wp2
    go_ret
    exact ⟨rfl, 0, rfl⟩
  · rw [hr]
    have q0 : 48 ≤ (x : Int) := by omega
    have q1 : ¬ (x : Int) ≤ 57 := by omega
    have q2 : ¬ 97 ≤ (x : Int) := by omega
    have q3 : (x : Int) ≤ 122 := by omega
    clear b0 hr
    go_enter Tryz.func152, Tryz.ntmps152
    go_wp2
    go_ret
    exact ⟨rfl, 0, rfl⟩
  · rw [hr]
    have q0 : 48 ≤ (x : Int) := by omega
    have q1 : ¬ (x : Int) ≤ 57 := by omega
    have q2 : 97 ≤ (x : Int) := by omega
    have q3 : (x : Int) ≤ 122 := by omega
    clear b0 hr
    go_enter Tryz.func152, Tryz.ntmps152
    go_wp2
    go_ret
    exact ⟨rfl, 0, rfl⟩
  · rw [hr]
    have q0 : 48 ≤ (x : Int) := by omega
    have q1 : ¬ (x : Int) ≤ 57 := by omega
    have q2 : 97 ≤ (x : Int) := by omega
    have q3 : ¬ (x : Int) ≤ 122 := by omega
    clear b0 hr
    go_enter Tryz.func152, Tryz.ntmps152
    go_wp2
    go_ret
    exact ⟨rfl, 0, rfl⟩
theorem emp_iff (s : ByteArray) : decide (s = Dg.nil8) = s.toList.isEmpty := by
  rw [Bool.eq_iff_iff, decide_eq_true_eq, List.isEmpty_iff, Lib.toList_data]
  constructor
  · intro h; rw [h]; rfl
  · intro h
    obtain ⟨d⟩ := s
    obtain ⟨l⟩ := d
    show (⟨⟨l⟩⟩ : ByteArray) = ⟨#[]⟩
    simp at h
    rw [h]
set_option maxHeartbeats 4000000 in
theorem item_any (x : Dg.It) (R : Bool) (hR : Dg.properI x = R) (hx : ItW x) (w : World) :
    Calls Tryz.prog 110 #[.agg #[.int .i64 x.kind, .string x.id, .string x.parent, .string x.number, .string x.north, .string x.south, .bool x.gone]] w fun e w' => e = .returned (.bool R) ∧ Below w.heap.size w w' := by
  have hb0 := Below.news (Below.refl w.heap.size w) (.cells #[.int .i64 x.kind, .string x.id, .string x.parent, .string x.number, .string x.north, .string x.south, .bool x.gone] 26)
  have hx0 := heap_alloc_new w (.cells #[.int .i64 x.kind, .string x.id, .string x.parent, .string x.number, .string x.north, .string x.south, .bool x.gone] 26)
  obtain ⟨nb, hnb⟩ : ∃ b, Dg.isNumB x.number = b := ⟨_, rfl⟩
  obtain ⟨nm, hnm⟩ : ∃ b, Dg.isNameB x.id = b := ⟨_, rfl⟩
  have hiz := hx.iz
  have hb3 : x.north.toList.isEmpty = decide (x.north = Dg.nil8) := (emp_iff _).symm
  have hb4 : x.south.toList.isEmpty = decide (x.south = Dg.nil8) := (emp_iff _).symm
  unfold Dg.properI at hR
  rw [← hb3, ← hb4, hnb, hnm] at hR
  have hnum : Dg.isNumB x.number = (decide ((x.number.size : Int) ≤ 8) && !decide (0 ≤ Lib.idxFunc numP true x.number)) := by
    rw [num_idx, Bool.not_not]
    unfold Dg.isNumB
    congr 1
    rw [Bool.eq_iff_iff, decide_eq_true_eq, decide_eq_true_eq]
    omega
  rw [hnb] at hnum
  clear hb3 hb4 hnb hx
  obtain ⟨kd, id, par, num, nor, sou, gon⟩ := x
  dsimp only at *
  have HR := hide hR; have HU := hide hnum; have HN := hide hnm
  clear hR hnum hnm
  go_enter Tryz.func110, Tryz.ntmps110
  go_upto_region 1 with (fail)
  obtain ⟨c0, c1, c2, c3, c4, c5, c6⟩ := iCells hx0
  generalize w.alloc (.cells #[.int .i64 kd, .string id, .string par, .string num, .string nor, .string sou, .bool gon] 26) = w0 at *
  generalize hg : w.heap.size = g at *
  go_cut [3] from 4 to 13 (fun v wx => v = .bool nb ∧ Below w0.heap.size w0 wx)
  case first =>
    by_cases hl : (num.size : Int) ≤ 8
    · have HU2 := hide (show (!decide (0 ≤ Lib.idxFunc numP true num)) = nb by rw [HU.out, decide_eq_true hl, Bool.true_and])
      clear HU
      go_wp2_with fail
      have ev : ∀ args w, (callFunc 152 args).run Tryz.prog w = .ok (.enter 152 args) w := enters_of Tryz.func152 (by kernel_rfl) rfl
      refine (Tryz.strings_ContainsFunc_runes 152 #[] ev numP num _ (num_pred _)).mono ?_
      rintro e w1 ⟨rfl, hb1⟩
      clear ev
      obtain ⟨z, hz⟩ : ∃ z, decide (0 ≤ Lib.idxFunc numP true num) = z := ⟨_, rfl⟩
      have HU3 := HU2.out
      rw [hz] at HU3
      rw [hz]
      clear HU2 hz
      subst HU3
      go_wp2_with fail
      go_meet
      exact ⟨rfl, hb1⟩
    · have HU2 := HU.out
      rw [decide_eq_false hl, Bool.false_and] at HU2
      subst HU2
      go_wp2_with fail
      go_meet
      exact ⟨rfl, Below.refl _ _⟩
  case rest =>
    obtain ⟨rfl, hbc⟩ := hcut
    have hrow := iNext hx0 hbc
    have hb : Below w.heap.size w wc := bnext (by rw [hg]; exact hb0) hbc
    clear hg hx0 hbc hb0 HU c0 c1 c2 c3 c4 c5 c6
    generalize wc = w2 at *
    obtain ⟨c0, c1, c2, c3, c4, c5, c6⟩ := iCells hrow
    clear hrow
    replace HR := HR.out
    by_cases k1 : kd = 1
    · rw [if_pos k1] at HR
      have k1b : (kd == 1) = true := beq_iff_eq.2 k1
      clear k1
      replace HR := hide HR
      cases nb with
      | false =>
        clear HN
        go_wp2_with fail
        go_ret
        first | exact ⟨ret_bool HR.out, hb⟩ | exact ⟨ret_bool (by rw [← HR.out]; first | exact decide_eq_false (by omega) | exact decide_eq_true (by omega)), hb⟩
      | true =>
        go_wp2_with fail
        refine (isName_any id nm HN.out hiz _).mono ?_
        rintro e w9 ⟨rfl, hw9⟩
        subst hw9
        clear HN
        cases nm with
        | false =>
          go_wp2_with fail
          go_ret
          first | exact ⟨ret_bool HR.out, hb⟩ | exact ⟨ret_bool (by rw [← HR.out]; first | exact decide_eq_false (by omega) | exact decide_eq_true (by omega)), hb⟩
        | true =>
          obtain ⟨n1, hn1⟩ : ∃ b, nor.toList.isEmpty = b := ⟨_, rfl⟩
          rw [hn1] at HR
          cases n1 with
          | false =>
            go_wp2_with fail
            go_ret
            first | exact ⟨ret_bool HR.out, hb⟩ | exact ⟨ret_bool (by rw [← HR.out]; first | exact decide_eq_false (by omega) | exact decide_eq_true (by omega)), hb⟩
          | true =>
            obtain ⟨n2, hn2⟩ : ∃ b, sou.toList.isEmpty = b := ⟨_, rfl⟩
            rw [hn2] at HR
            cases n2 with
            | false =>
              go_wp2_with fail
              go_ret
              first | exact ⟨ret_bool HR.out, hb⟩ | exact ⟨ret_bool (by rw [← HR.out]; first | exact decide_eq_false (by omega) | exact decide_eq_true (by omega)), hb⟩
            | true =>
              cases gon with
              | false =>
                go_wp2_with fail
                go_ret
                first | exact ⟨ret_bool HR.out, hb⟩ | exact ⟨ret_bool (by rw [← HR.out]; first | exact decide_eq_false (by omega) | exact decide_eq_true (by omega)), hb⟩
              | true =>
                go_wp2_with fail
                go_ret
                first | exact ⟨ret_bool HR.out, hb⟩ | exact ⟨ret_bool (by rw [← HR.out]; first | exact decide_eq_false (by omega) | exact decide_eq_true (by omega)), hb⟩
    · rw [if_neg k1] at HR
      have k1b : (kd == 1) = false := beq_eq_false_iff_ne.2 k1
      clear k1
      by_cases k2 : kd = 2
      · rw [if_pos k2] at HR
        have k2b : (kd == 2) = true := beq_iff_eq.2 k2
        clear k2
        replace HR := hide HR
        cases nb with
        | false =>
          clear HN
          go_wp2_with fail
          go_ret
          first | exact ⟨ret_bool HR.out, hb⟩ | exact ⟨ret_bool (by rw [← HR.out]; first | exact decide_eq_false (by omega) | exact decide_eq_true (by omega)), hb⟩
        | true =>
          go_wp2_with fail
          refine (isName_any id nm HN.out hiz _).mono ?_
          rintro e w9 ⟨rfl, hw9⟩
          subst hw9
          clear HN
          cases nm with
          | false =>
            go_wp2_with fail
            go_ret
            first | exact ⟨ret_bool HR.out, hb⟩ | exact ⟨ret_bool (by rw [← HR.out]; first | exact decide_eq_false (by omega) | exact decide_eq_true (by omega)), hb⟩
          | true =>
            by_cases d1 : (nor.size : Int) ≤ 400
            rotate_left
            · rw [show decide (nor.size ≤ 400) = false from decide_eq_false (by omega)] at HR
              go_wp2_with fail
              go_ret
              first | exact ⟨ret_bool HR.out, hb⟩ | exact ⟨ret_bool (by rw [← HR.out]; first | exact decide_eq_false (by omega) | exact decide_eq_true (by omega)), hb⟩
            rw [show decide (nor.size ≤ 400) = true from decide_eq_true (by omega)] at HR
            by_cases d2 : (sou.size : Int) ≤ 400
            rotate_left
            · rw [show decide (sou.size ≤ 400) = false from decide_eq_false (by omega)] at HR
              go_wp2_with fail
              go_ret
              first | exact ⟨ret_bool HR.out, hb⟩ | exact ⟨ret_bool (by rw [← HR.out]; first | exact decide_eq_false (by omega) | exact decide_eq_true (by omega)), hb⟩
            rw [show decide (sou.size ≤ 400) = true from decide_eq_true (by omega)] at HR
            go_wp2_with fail
            go_ret
            first | exact ⟨ret_bool HR.out, hb⟩ | exact ⟨ret_bool (by rw [← HR.out]; first | exact decide_eq_false (by omega) | exact decide_eq_true (by omega)), hb⟩
      · rw [if_neg k2] at HR
        have k2b : (kd == 2) = false := beq_eq_false_iff_ne.2 k2
        clear k2
        replace HR := hide HR
        clear HN
        go_wp2_with fail
        go_ret
        first | exact ⟨ret_bool HR.out, hb⟩ | exact ⟨ret_bool (by rw [← HR.out]; first | exact decide_eq_false (by omega) | exact decide_eq_true (by omega)), hb⟩
end Go.Proofs.YtobhpeockinnjaaGreatDoor
/- What is below an item of a code stands directly behind it, in plain Lean. No program in sight. -/
namespace Go.Proofs.YtobhpeockinnjaaGreatDoor.Dg
open Go
/-- The open divisions at the visits of a valid code. -/
def visits (l : List It) : List (List ByteArray) := match walkTo l l.length with | none => [] | some (vs, _) => vs
theorem valid_walk {l : List It} (h : validC l = true) : ∃ s, walkTo l l.length = some (visits l, s) ∧ l.length ≤ 2000 := by
  unfold validC at h
  rw [Bool.and_eq_true, decide_eq_true_iff] at h
  unfold visits
  cases hw : walkTo l l.length with
  | none => rw [hw] at h; cases h.1
  | some p => obtain ⟨vs, s⟩ := p; exact ⟨s, rfl, h.2⟩
/-- Two visits after each other. -/
theorem visit_step {l : List It} {n : Nat} (hn : n ≤ l.length) {vs : List (List ByteArray)} {s : Wk} (h : walkTo l n = some (vs, s)) {k : Nat} (hk : k + 1 < n) (o o' : List ByteArray) (ho : vs[k]? = some o) (ho' : vs[k + 1]? = some o') : ∃ j, o' = (if l[k].kind = 1 then o ++ [l[k].id] else o).take j := by
  obtain ⟨s2, h2⟩ := walk_le hn h (k + 2) (by omega)
  obtain ⟨vs1, s1, o1, w1, st1, e1⟩ := walk_step (l := l) (k := k + 1) (by omega) h2
  obtain ⟨vs0, s0, o0, w0, st0, e0⟩ := walk_step (l := l) (k := k) (by omega) w1
  have l0 := walk_len (by omega) w0
  have l1 := walk_len (by omega) w1
  have a1 : (vs.take (k + 2))[k + 1]? = some o1 := by rw [e1, List.getElem?_append_right (by omega), l1]; simp
  have a0 : (vs.take (k + 2))[k]? = some o0 := by rw [e1, e0, List.append_assoc, List.getElem?_append_right (by omega), l0]; simp
  rw [List.getElem?_take_of_lt (by omega), ho'] at a1
  rw [List.getElem?_take_of_lt (by omega), ho] at a0
  injection a1 with a1
  injection a0 with a0
  subst a1 a0
  obtain ⟨_, _, j, _, c1, _, _⟩ := stepI_some st1
  obtain ⟨_, _, _, _, _, _, c2⟩ := stepI_some st0
  exact ⟨j, by rw [c1, c2]⟩
/-- At a visit nothing is open but what came before; the parent is. -/
theorem visit_at {l : List It} {n : Nat} (hn : n ≤ l.length) {vs : List (List ByteArray)} {s : Wk} (h : walkTo l n = some (vs, s)) {k : Nat} (hk : k < n) : ∃ o, vs[k]? = some o ∧ (∀ x ∈ o, x ∈ (l.take k).map It.id) ∧ l[k].id ∉ (l.take k).map It.id ∧ (l[k].parent ≠ nil8 → l[k].parent ∈ o) ∧ properI l[k] = true := by
  obtain ⟨s1, h1⟩ := walk_le hn h (k + 1) (by omega)
  obtain ⟨vs0, s0, o0, w0, st0, e0⟩ := walk_step (l := l) (k := k) (by omega) h1
  have l0 := walk_len (by omega) w0
  have a0 : (vs.take (k + 1))[k]? = some o0 := by rw [e0, List.getElem?_append_right (by omega), l0]; simp
  rw [List.getElem?_take_of_lt (by omega)] at a0
  obtain ⟨b1, _, b3, _⟩ := walk_seen (by omega) w0
  obtain ⟨c0, c1, j, c2, c3, _, _⟩ := stepI_some st0
  refine ⟨o0, a0, fun x hx => ?_, ?_, fun hp => ?_, c0⟩
  · rw [c3] at hx
    have := b3 x (List.mem_of_mem_take hx)
    rw [b1] at this
    exact List.mem_reverse.1 this
  · rw [b1] at c1
    exact fun hm => c1 (List.mem_reverse.2 hm)
  · unfold kOf at c2
    rw [if_neg hp] at c2
    split at c2
    · rename_i hin
      injection c2 with c2
      rw [c3, ← c2]
      have hf : (s0.op.findIdx fun d => decide (d = l[k].parent)) < s0.op.length := List.findIdx_lt_length_of_exists ⟨_, (inB_iff _ _).1 hin, decide_eq_true rfl⟩
      have hg := List.findIdx_getElem (w := hf)
      have hg2 := of_decide_eq_true hg
      have hlt : (s0.op.findIdx fun d => decide (d = l[k].parent)) < (s0.op.take ((s0.op.findIdx fun d => decide (d = l[k].parent)) + 1)).length := by rw [List.length_take]; omega
      exact List.mem_iff_getElem.2 ⟨_, hlt, by rw [List.getElem_take]; exact hg2⟩
    · cases c2
/-- Names of a code walked to its n-th item are different. -/
theorem ids_ne {l : List It} {n : Nat} (hn : n ≤ l.length) {vs : List (List ByteArray)} {s : Wk} (h : walkTo l n = some (vs, s)) {i k : Nat} (hi : i < k) (hk : k < n) : l[i].id ≠ l[k].id := fun e => by
  obtain ⟨_, _, _, h2, _⟩ := visit_at hn h hk
  refine h2 ?_
  rw [← e]
  refine List.mem_map.2 ⟨l[i], List.mem_iff_getElem.2 ⟨i, by rw [List.length_take]; omega, List.getElem_take⟩, rfl⟩
/-- What is below item i: the m items behind it. -/
theorem below_run {l : List It} {n : Nat} (hn : n ≤ l.length) {vs : List (List ByteArray)} {s : Wk} (h : walkTo l n = some (vs, s)) {i : Nat} (hi : i < n) : ∃ m, i + m < n ∧ (0 < m → l[i].kind = 1) ∧ ∀ k, k < n → ∀ o, vs[k]? = some o → (l[i].id ∈ o ↔ i < k ∧ k ≤ i + m) := by
  have hup : ∀ k, i < k → k + 1 < n → ∀ o o', vs[k]? = some o → vs[k + 1]? = some o' → l[i].id ∈ o' → l[i].id ∈ o := fun k hik hk o o' ho ho' hm => by
    obtain ⟨j, rfl⟩ := visit_step hn h hk o o' ho ho'
    have h1 := List.mem_of_mem_take hm
    split at h1
    · rcases List.mem_append.1 h1 with h2 | h2
      · exact h2
      · exact absurd (List.mem_singleton.1 h2) (ids_ne hn h hik (by omega))
    · exact h1
  have hfirst : ∀ o', i + 1 < n → vs[i + 1]? = some o' → l[i].id ∈ o' → l[i].kind = 1 := fun o' hk ho' hm => by
    obtain ⟨o, ho, h1, h2, _⟩ := visit_at hn h hi
    obtain ⟨j, rfl⟩ := visit_step hn h hk o o' ho ho'
    have h3 := List.mem_of_mem_take hm
    split at h3
    · assumption
    · exact absurd (h1 _ h3) h2
  have hlow : ∀ k, k ≤ i → ∀ o, vs[k]? = some o → l[i].id ∉ o := fun k hk o ho hm => by
    obtain ⟨o2, ho2, h1, _⟩ := visit_at hn h (k := k) (by omega)
    rw [ho] at ho2
    injection ho2 with ho2
    subst ho2
    have h2 := h1 _ hm
    obtain ⟨_, _, _, h3, _⟩ := visit_at hn h hi
    refine h3 ?_
    obtain ⟨x, hx, e⟩ := List.mem_map.1 h2
    refine List.mem_map.2 ⟨x, ?_, e⟩
    obtain ⟨j, hj, rfl⟩ := List.mem_iff_getElem.1 hx
    rw [List.length_take] at hj
    rw [List.getElem_take]
    exact List.mem_iff_getElem.2 ⟨j, by rw [List.length_take]; omega, List.getElem_take⟩
  have key : ∀ N, i < N → N ≤ n → ∃ m, i + m < N ∧ (0 < m → l[i].kind = 1) ∧ ∀ k, k < N → ∀ o, vs[k]? = some o → (l[i].id ∈ o ↔ i < k ∧ k ≤ i + m) := by
    intro N
    induction N with
    | zero => intro h0; omega
    | succ N ih =>
      intro h0 hN
      by_cases hiN : i = N
      · refine ⟨0, by omega, by omega, fun k hk o ho => ⟨fun hm => absurd hm (hlow k (by omega) o ho), fun hh => by omega⟩⟩
      · obtain ⟨m, m1, m2, m3⟩ := ih (by omega) (by omega)
        obtain ⟨oN, hoN, _⟩ := visit_at hn h (k := N) (by omega)
        by_cases hmem : l[i].id ∈ oN
        · have hmN : i + m + 1 = N := by
            by_cases e : i + 1 = N
            · omega
            · obtain ⟨N', rfl⟩ : ∃ N', N = N' + 1 := ⟨N - 1, by omega⟩
              obtain ⟨o', ho', _⟩ := visit_at hn h (k := N') (by omega)
              have := (m3 N' (by omega) o' ho').1 (hup N' (by omega) (by omega) o' oN ho' hoN hmem)
              omega
          refine ⟨m + 1, by omega, fun _ => ?_, fun k hk o ho => ?_⟩
          · by_cases e : i + 1 = N
            · subst e; exact hfirst oN (by omega) hoN hmem
            · exact m2 (by omega)
          · by_cases e : k = N
            · subst e
              rw [hoN] at ho
              injection ho with ho
              subst ho
              exact ⟨fun _ => by omega, fun _ => hmem⟩
            · rw [m3 k (by omega) o ho]; omega
        · refine ⟨m, by omega, m2, fun k hk o ho => ?_⟩
          by_cases e : k = N
          · subst e
            rw [hoN] at ho
            injection ho with ho
            subst ho
            exact ⟨fun hm => absurd hm hmem, fun hh => by omega⟩
          · exact m3 k (by omega) o ho
  exact key n hi (Nat.le_refl _)
end Go.Proofs.YtobhpeockinnjaaGreatDoor.Dg
/- walk of package code, whatever it calls. No conditions but those that each theorem states. -/
namespace Go.Proofs.YtobhpeockinnjaaGreatDoor
open Go Go.RowKit Go.Sort Go.Maps
theorem lawStr : Keyed Tryz.prog 9 := string_keyed Tryz.underlying9
theorem key_str (s : ByteArray) (hs : s.size ≤ 9223372036854775807) : keyOf Tryz.prog 9 (.string s) = some (.string s.data.toList) :=
  Go.WideMaps.keyOf_string_mk Tryz.underlying9 hs
set_option maxRecDepth 100000 in
theorem plainElem_bool_inv {v : Value} {z : DataW Unit × List MemPlace} (h : plainElem Tryz.prog 4 v = some z) : ∃ x, v = .bool x ∧ z = (.lit (.bool x), []) := by
  unfold plainElem at h
  rw [Tryz.underlying4] at h
  split at h
  · cases h; exact ⟨_, rfl, rfl⟩
  · rename_i h1; cases h1
  · rename_i h1; cases h1
  · cases h
noncomputable def rBo : Value → Option (DataW Unit × List MemPlace) := plainElem Tryz.prog 4
/-- The Ids that were seen, as the map reads. -/
noncomputable def seenS : List ByteArray → DataW Unit
  | [] => .map []
  | m :: s => (seenS s).put (.string m.data.toList) (.lit (.bool true))
theorem seenS_isMap : ∀ s, IsMap (seenS s)
  | [] => isMap_empty
  | _ :: s => (seenS_isMap s).put _ _
theorem seenS_at (m : ByteArray) : ∀ s, (seenS s).atKey (.string m.data.toList) (.lit (.bool false)) = .lit (.bool (Dg.inB s m))
  | [] => rfl
  | x :: s => by
    by_cases h : x = m
    · subst h
      rw [seenS, atKey_put_same (seenS_isMap s) (by trivial)]
      simp [Dg.inB]
    · rw [seenS, atKey_put_other (fun e => h (by
        obtain ⟨d⟩ := x; obtain ⟨d'⟩ := m
        injection e with e
        exact congrArg ByteArray.mk (Array.toList_inj.1 e.symm))), seenS_at m s]
      simp [Dg.inB, h]
set_option maxRecDepth 100000 in
theorem seenS_run {W : World} {mb N : Nat} {s : List ByteArray} (h : W.ownsMap Tryz.prog 9 rBo mb N (seenS s)) (m : ByteArray) (hm : m.size ≤ 9223372036854775807) :
    (Instr.lookup 143 (.map (some mb)) (.string m) false).run Tryz.prog W = .ok (.bool (Dg.inB s m)) W := by
  obtain ⟨v, ps, hrun, hv⟩ := h.lookup lawStr Tryz.underlying143 (z := .bool false) (by kernel_rfl) (plainElem_bool Tryz.underlying4 false) (key_str m hm)
  rw [seenS_at] at hv
  obtain ⟨x, rfl, hx⟩ := plainElem_bool_inv hv
  injection hx with hx _
  injection hx with hx
  injection hx with hx
  rw [hx]
  exact hrun
/-- What is open: a row of strings, in no block of S. -/
structure OpenAt (S : List Nat) (w : World) (A : Option Addr) (l : List ByteArray) : Prop where
  at_ : 0 < l.length → ∃ b, A = some ⟨b, 0, none⟩ ∧ b < w.heap.size ∧ b ∉ S ∧ ∀ (j : Nat) (s : ByteArray), l[j]? = some s → w.cell? ⟨b, j, none⟩ = some (.string s)
theorem OpenAt.nil (S : List Nat) (w : World) (A : Option Addr) : OpenAt S w A [] := ⟨fun h => by simp at h⟩
theorem OpenAt.strs {S : List Nat} {w : World} {A : Option Addr} {l : List ByteArray} (h : OpenAt S w A l) : Strs w w.heap.size A l :=
  ⟨fun h0 => by
    obtain ⟨b, e, hb, _, hc⟩ := h.at_ h0
    exact ⟨b, 0, e, hb, fun j s hj => by rw [Nat.zero_add]; exact hc j s hj⟩⟩
theorem OpenAt.take {S : List Nat} {w : World} {A : Option Addr} {l : List ByteArray} (h : OpenAt S w A l) (k : Nat) : OpenAt S w A (l.take k) :=
  ⟨fun h0 => by
    rw [List.length_take] at h0
    obtain ⟨b, e, hb, hn, hc⟩ := h.at_ (by omega)
    exact ⟨b, e, hb, hn, fun j s hj => hc j s (by rw [List.getElem?_take] at hj; split at hj; exact hj; cases hj)⟩⟩
theorem OpenAt.off {S T : List Nat} {w w' : World} {A : Option Addr} {l : List ByteArray} (h : OpenAt S w A l) (ho : Off S w w') (hT : ∀ g ∈ T, g ∈ S ∨ w.heap.size ≤ g) : OpenAt T w' A l :=
  ⟨fun h0 => by
    obtain ⟨b, e, hb, hn, hc⟩ := h.at_ h0
    refine ⟨b, e, Nat.lt_of_lt_of_le hb ho.size, fun hm => ?_, fun j s hj => ?_⟩
    · rcases hT b hm with h1 | h1
      · exact hn h1
      · omega
    · exact (World.cell?_of_block (w := w) (w' := w') (a := ⟨b, j, none⟩) (ho.block b hb hn)).trans (hc j s hj)⟩
theorem OpenAt.next {S : List Nat} {w w' : World} {A : Option Addr} {l : List ByteArray} (h : OpenAt S w A l) (hb : Below w.heap.size w w') : OpenAt S w' A l := h.off (Off.of_below hb) fun _ hg => Or.inl hg
/-- A new row. -/
theorem OpenAt.own {S : List Nat} {w : World} {B : Nat} {v : Value} {l : List ByteArray} (h : OwnS w B v l) (hS : ∀ g ∈ S, g < B) : ∃ A c, v = .slice A l.length c ∧ l.length ≤ c ∧ OpenAt S w A l := by
  rcases h.cases with ⟨rfl, rfl⟩ | ⟨g, cap, rfl, hB, hg, hc, hcell, _⟩
  · exact ⟨none, 0, rfl, by simp, OpenAt.nil _ _ _⟩
  · exact ⟨_, cap, rfl, hc, ⟨fun _ => ⟨g, rfl, hg, fun hm => by have := hS g hm; omega, hcell⟩⟩⟩
/-- What walk asks of the function that it calls: Inv k S W before the visit of item k: the blocks that it may write are those of S. -/
structure Visit (l : List Dg.It) (F : Nat) (lb : Array Value) (B0 n0 : Nat) (Inv : Nat → List Nat → World → Prop) : Prop where
  enters : ∀ args w, (callFunc F args).run Tryz.prog w = .ok (.enter F args) w
  stable : ∀ k S W W', Inv k S W → (∀ g ∈ S, W'.heap[g]? = W.heap[g]?) → Below n0 W W' → Inv k S W'
  lt : ∀ k S W, Inv k S W → ∀ g ∈ S, B0 ≤ g ∧ g < W.heap.size
  call : ∀ (k : Nat) (S : List Nat) (W : World) (o : List ByteArray) (A : Option Addr) (c : Nat) (vs : List (List ByteArray)) (s : Dg.Wk), k < l.length → Inv k S W → Dg.walkTo l (k + 1) = some (vs ++ [o], s) → vs.length = k →
    Strs W W.heap.size A o → o.length ≤ c → n0 ≤ W.heap.size →
    Calls Tryz.prog F (#[.int .i64 (k : Int), .slice A o.length c] ++ lb) W fun e W' => e = .returned (.tuple #[]) ∧ ∃ S', Inv (k + 1) S' W' ∧ Off S W W' ∧ ∀ g ∈ S', g ∈ S ∨ W.heap.size ≤ g
end Go.Proofs.YtobhpeockinnjaaGreatDoor
/- walk of package code, whatever it calls: the walk. No conditions but those that each theorem states. -/
namespace Go.Proofs.YtobhpeockinnjaaGreatDoor
open Go Go.RowKit Go.Sort Go.Maps
theorem idx_from (x : ByteArray) : ∀ (l : List ByteArray) (i : Nat), Lib.idxFromS l x i = if Dg.inB l x = true then ((i + l.findIdx (fun d => decide (d = x)) : Nat) : Int) else -1
  | [], i => by simp [Lib.idxFromS, Dg.inB]
  | z :: l, i => by
    by_cases h : z = x
    · subst h
      simp [Lib.idxFromS, Dg.inB, List.findIdx_cons]
    · have h2 : ¬ x = z := fun e => h e.symm
      rw [Lib.idxFromS, idx_from x l (i + 1)]
      have e1 : Dg.inB (z :: l) x = Dg.inB l x := by simp [Dg.inB, h]
      rw [e1, List.findIdx_cons, decide_eq_false h]
      simp only [h, if_false, cond_false]
      split
      · congr 1; omega
      · rfl
theorem idx_yes {l : List ByteArray} {x : ByteArray} (h : Dg.inB l x = true) : Lib.idxOfS l x = ((l.findIdx (fun d => decide (d = x)) : Nat) : Int) := by
  rw [Lib.idxOfS, idx_from, if_pos h, Nat.zero_add]
theorem idx_no {l : List ByteArray} {x : ByteArray} (h : Dg.inB l x = false) : Lib.idxOfS l x = -1 := by
  rw [Lib.idxOfS, idx_from, if_neg (by rw [h]; exact Bool.false_ne_true)]
theorem strs_cells {w : World} {b off : Nat} {l : List ByteArray} (hc : ∀ (j : Nat) (s : ByteArray), l[j]? = some s → w.cell? ⟨b, off + j, none⟩ = some (.string s)) : ∀ j, j < l.length → w.cell? ⟨b, off + j, none⟩ = some (.string (l.getD j ByteArray.empty)) := fun j hj => by
  rw [hc j l[j] (List.getElem?_eq_getElem hj), List.getD_eq_getElem?_getD, List.getElem?_eq_getElem hj]; rfl
theorem sindex_s (A : Option Addr) (n c : Nat) (l : List ByteArray) (x : ByteArray) (w : World) (hl : l.length = n) (hn : n ≤ 1099511627776) (hS : Strs w w.heap.size A l) :
    Calls Tryz.prog 111 #[.slice A n c, .string x] w fun e w' => e = .returned (.int .i64 (Lib.idxOfS l x)) ∧ w' = w := by
  subst hl
  rcases Nat.eq_zero_or_pos l.length with h0 | h0
  · obtain rfl := List.length_eq_zero_iff.1 h0
    exact Tryz.slices_Index_string_empty A c x w
  · obtain ⟨b, off, rfl, hb, hc⟩ := hS.at_ h0
    have := Tryz.slices_Index_string b off l.length c l x w (Nat.le_refl _) (by omega) (strs_cells hc)
    rw [List.take_length] at this
    exact this
theorem bad_step {l : List Dg.It} {k : Nat} (hk : k < l.length) {vs : List (List ByteArray)} {s : Dg.Wk} (h : Dg.walkTo l k = some (vs, s)) (hs : Dg.stepI s l[k] = none) : Dg.validC l = false := by
  rw [Bool.eq_false_iff]
  intro hv
  obtain ⟨s1, h1, _⟩ := Dg.valid_walk hv
  obtain ⟨s2, h2⟩ := Dg.walk_le (Nat.le_refl _) h1 (k + 1) hk
  obtain ⟨vs0, s3, o, h3, h4, _⟩ := Dg.walk_step hk h2
  rw [h] at h3
  cases h3
  rw [hs] at h4
  cases h4
theorem good_step {l : List Dg.It} {k : Nat} (hk : k < l.length) {vs : List (List ByteArray)} {s s' : Dg.Wk} {o : List ByteArray} (h : Dg.walkTo l k = some (vs, s)) (hs : Dg.stepI s l[k] = some (o, s')) : Dg.walkTo l (k + 1) = some (vs ++ [o], s') := by
  rw [Dg.walkTo_succ l k hk, h]
  simp only [hs]
theorem op_len {l : List Dg.It} : ∀ {k : Nat} (_ : k ≤ l.length) {vs : List (List ByteArray)} {s : Dg.Wk}, Dg.walkTo l k = some (vs, s) → s.op.length ≤ k
  | 0, _, vs, s, h => by
    simp only [Dg.walkTo] at h
    cases h
    exact Nat.le_refl _
  | k + 1, hk, vs, s, h => by
    obtain ⟨vs0, s0, o, h1, h2, _⟩ := Dg.walk_step hk h
    have h3 := op_len (by omega) h1
    obtain ⟨_, _, j, _, ho, _, hop⟩ := Dg.stepI_some h2
    have h4 : o.length ≤ s0.op.length := by rw [ho, List.length_take]; omega
    rw [hop]
    split
    · rw [List.length_append, List.length_singleton]; omega
    · omega
theorem kk_facts {f k m n c : Nat} (h : f + 1 = k) (hf : f < m) (hm : m ≤ n) (hn : n ≤ 1048576) (hc : m ≤ c) : wrap64 ((f : Int) + 1) = (k : Int) ∧ ((k : Int) == 0) = false ∧ k ≤ m ∧ (k : Int) ≤ (m : Int) ∧ (k : Int) ≤ (c : Int) ∧ (0 : Int) ≤ (k : Int) := by
  refine ⟨?_, beq_eq_false_iff_ne.2 (by omega), by omega, by omega, by omega, by omega⟩
  rw [IntWalk.wrap64_in _ (by omega)]
  omega
theorem step_some (s : Dg.Wk) (x : Dg.It) (h1 : Dg.properI x = true) (h2 : Dg.inB s.seen x.id = false) (k : Nat) (hk : Dg.kOf s.op x.parent = some k) : Dg.stepI s x = some (s.op.take k, ⟨x.id :: s.seen, if x.kind = 1 then s.op.take k ++ [x.id] else s.op.take k⟩) := by
  unfold Dg.stepI
  rw [if_pos ⟨h1, h2⟩, hk]
theorem step_none3 (s : Dg.Wk) (x : Dg.It) (h1 : Dg.properI x = true) (h2 : Dg.inB s.seen x.id = false) (hk : Dg.kOf s.op x.parent = none) : Dg.stepI s x = none := by
  unfold Dg.stepI
  rw [if_pos ⟨h1, h2⟩, hk]
theorem step_none1 (s : Dg.Wk) (x : Dg.It) (h1 : Dg.properI x = false) : Dg.stepI s x = none := by
  unfold Dg.stepI
  rw [if_neg (fun h => by rw [h1] at h; exact absurd h.1 Bool.false_ne_true)]
theorem step_none2 (s : Dg.Wk) (x : Dg.It) (h1 : Dg.inB s.seen x.id = true) : Dg.stepI s x = none := by
  unfold Dg.stepI
  rw [if_neg (fun h => by rw [h1] at h; exact absurd h.2 (by simp))]
theorem Off.wide {S T : List Nat} {w w' : World} (h : Off S w w') (hT : ∀ g ∈ S, g ∈ T) : Off T w w' := ⟨h.os, h.tape, h.output, h.size, fun k hk hn => h.block k hk fun hm => hn (hT k hm)⟩
theorem grown_belowN {w w' : World} (hg : w.grownBy w' none) : Below w.heap.size w w' := ⟨hg.os, hg.tape, hg.output, hg.size, fun k hk => hg.block k hk (by simp)⟩
theorem iCells0 {w : World} {g : Nat} {a0 : Value} {T : TypeId} (h : w.heap[g]? = some (.cells #[a0] T (0, 0))) : w.cell? ⟨g, 0, none⟩ = some a0 := by
  rw [cell_of_row _ _ _ _ _ (0, 0) h]; rfl
set_option maxRecDepth 100000 in
set_option maxHeartbeats 8000000 in
theorem walk_any (l : List Dg.It) (A : Option Addr) (n c : Nat) (hl : l.length = n) (hw : ∀ x ∈ l, ItW x) (hn : n ≤ 1048576) (B0 : Nat) (w : World) (hI : Its w B0 A l) (hB : B0 ≤ w.heap.size)
    (F : Nat) (lb : Array Value) (Inv : Nat → List Nat → World → Prop) (hv : Visit l F lb B0 w.heap.size Inv) (S0 : List Nat) (h0 : Inv 0 S0 w) (R : Bool) (hR : Dg.validC l = R) :
    Calls Tryz.prog 63 #[.agg #[.slice A n c], .func (.func F) #[] lb] w fun e w' => e = .returned (.bool R) ∧ ∃ k S, (R = true → k = n) ∧ Inv k S w' ∧ Off S0 w w' ∧ ∀ g ∈ S, g ∈ S0 ∨ w.heap.size ≤ g := by
  have HR := hide hR; have HW := hide hw; have HL := hide hl; have HI := hide h0; have HV := hide hv; have HT := hide hI
  have hlt0 := hide (hv.lt 0 S0 w h0)
  clear hR hw hl h0 hv hI
  have hmm := @run_makeMap Tryz.prog
  have hx1 := Below.news (Below.refl w.heap.size w) (.cells #[.slice A n c] 24)
  have hx2 := Below.news (Below.refl (w.alloc (.cells #[.slice A n c] 24)).heap.size (w.alloc (.cells #[.slice A n c] 24))) (.map #[] 0)
  have hs1 : (w.alloc (.cells #[.slice A n c] 24)).heap.size = w.heap.size + 1 := by simp
  have hmap := World.ownsMap_made (w.alloc (.cells #[.slice A n c] 24)) Tryz.prog 9 rBo
  rw [hs1] at hmap
  have hc0 : ((w.alloc (.cells #[.slice A n c] 24)).alloc (.map #[] 0)).heap[w.heap.size]? = some (.cells #[.slice A n c] 24 (0, 0)) := iNext (heap_alloc_new w _) hx2
  have hb := bnext hx1 hx2
  have hs2 : ((w.alloc (.cells #[.slice A n c] 24)).alloc (.map #[] 0)).heap.size = w.heap.size + 2 := by simp
  clear hx1 hx2
  go_enter Tryz.func63, Tryz.ntmps63
  go_upto_region 3 with (fail)
  have hcc := iCells0 hc0
  obtain ⟨W0, hW0⟩ : ∃ W, (w.alloc (.cells #[.slice A n c] 24)).alloc (.map #[] 0) = W := ⟨_, rfl⟩
  rw [hW0] at hb hmap hc0 hcc hs2 ⊢
  clear hs1 hW0 hmm
  have hB2 := hide hs2
  clear hs2
  obtain ⟨mb, hmb⟩ : ∃ m, w.heap.size + 1 = m := ⟨_, rfl⟩
  rw [hmb] at hmap ⊢
  have hS0 : Hid (∀ g ∈ S0, g < w.heap.size) := fun g hg => (hlt0.out g hg).2
  go_wp2_with fail
  clear hcc
  have hst := hide ((HV.out).stable 0 S0 w W0 HI.out (fun g hg => hb.block g (hS0.out g hg)) hb)
  have hB2' : Hid (w.heap.size + 2 ≤ W0.heap.size) := Nat.le_of_eq hB2.out.symm
  clear hB2
  have HB2 := hB2'; clear hB2'
  go_loopw [6, 14] (fun ov iv wr => ∃ (k : Nat) (vs : List (List ByteArray)) (s : Dg.Wk) (Ao : Option Addr) (co : Nat) (S : List Nat), k ≤ n ∧ iv = .int .i64 k ∧ ov = .slice Ao s.op.length co ∧ s.op.length ≤ co ∧ Hid (Dg.walkTo l k = some (vs, s)) ∧ OpenAt (mb :: S) wr Ao s.op ∧
      wr.ownsMap Tryz.prog 9 rBo mb k (seenS s.seen) ∧ Hid (Inv k S wr) ∧ Off (mb :: S0) W0 wr ∧ Hid (∀ g ∈ S, g ∈ S0 ∨ W0.heap.size ≤ g)) (fun _ iv _ => n - (intOf iv).toNat)
  case atStart => exact ⟨0, [], ⟨[], []⟩, none, 0, S0, by omega, rfl, rfl, Nat.le_refl _, rfl, OpenAt.nil _ _ _, hmap, hst, Off.refl _ _, fun g hg => Or.inl hg⟩
  case round =>
    obtain ⟨k, vs, s, Ao, co, S, hk, rfl, rfl, hco, hwt, hop, hMr, hiv, hofr, hSr⟩ := hrel
    clear hmap hst
    have hmlt := hMr.lt
    have hoff : Hid (Off S0 w wr) := (Off.of_below hb).trans hofr (fun g hg => by
      rcases List.mem_cons.1 hg with rfl | hg
      · exact Or.inr (by omega)
      · exact Or.inl hg)
    have hmS : Hid (mb ∉ S) := fun hm => by
      rcases hSr.out mb hm with h1 | h1
      · have := hS0.out mb h1; omega
      · have := HB2.out; omega
    have hop_ := hide (op_len (by rw [HL.out]; exact hk) hwt.out)
    by_cases hlt : k < n
    · have hkl : k < l.length := by rw [HL.out]; exact hlt
      have hbB : Below B0 w wr := hoff.out.below hB (fun g hg => (hlt0.out g hg).1)
      obtain ⟨b, off, rfl, hbl, hcc⟩ := (HT.out.below hbB).get hkl
      have hxw := hide (HW.out l[k] (List.getElem_mem hkl))
      have hbad := hide (fun hs => bad_step hkl hwt.out hs)
      have hgood := hide (fun o s' hs => good_step (s' := s') (o := o) hkl hwt.out hs)
      generalize l[k] = x at *
      have p0 : wr.cell? ⟨b, off + k * 7, none⟩ = some (.int .i64 x.kind) := hcc 0 _ rfl
      have p1 : wr.cell? ⟨b, off + k * 7 + 1, none⟩ = some (.string x.id) := hcc 1 _ rfl
      have p2 : wr.cell? ⟨b, off + k * 7 + 2, none⟩ = some (.string x.parent) := hcc 2 _ rfl
      have p3 : wr.cell? ⟨b, off + k * 7 + 3, none⟩ = some (.string x.number) := hcc 3 _ rfl
      have p4 : wr.cell? ⟨b, off + k * 7 + 4, none⟩ = some (.string x.north) := hcc 4 _ rfl
      have p5 : wr.cell? ⟨b, off + k * 7 + 5, none⟩ = some (.string x.south) := hcc 5 _ rfl
      have p6 : wr.cell? ⟨b, off + k * 7 + 6, none⟩ = some (.bool x.gone) := hcc 6 _ rfl
      clear hcc
      have hk0 : (0 : Int) ≤ (k : Int) := by omega
      have hkn : (k : Int) < (n : Int) := by omega
      have hx := Below.news (Below.refl wr.heap.size wr) (.cells #[.int .i64 x.kind, .string x.id, .string x.parent, .string x.number, .string x.north, .string x.south, .bool x.gone] 26)
      have hrow := heap_alloc_new wr (.cells #[.int .i64 x.kind, .string x.id, .string x.parent, .string x.number, .string x.north, .string x.south, .bool x.gone] 26)
      go_wp2_with fail
      clear p0 p1 p2 p3 p4 p5 p6
      have hxb := hide (show Off S0 w wr ∧ Inv k S wr from ⟨hoff.out, hiv.out⟩)
      have hfin : Hid (∀ W, Off [mb] wr W → ∃ k S, (false = true → k = n) ∧ Inv k S W ∧ Off S0 w W ∧ ∀ g ∈ S, g ∈ S0 ∨ w.heap.size ≤ g) := fun W hW => by
        have hsz := hoff.out.size
        have hbw : Below w.heap.size wr W := hW.below hsz (fun g hg => by rw [List.mem_singleton.1 hg]; omega)
        refine ⟨k, S, (fun h => by cases h), HV.out.stable k S wr W hiv.out (fun g hg => hW.block g (HV.out.lt k S wr hiv.out g hg).2 (fun hm => hmS.out (by rw [← List.mem_singleton.1 hm]; exact hg))) hbw, hoff.out.trans hW (fun g hg => Or.inr (by rw [List.mem_singleton.1 hg]; omega)), fun g hg => (hSr.out g hg).imp id (fun h => by have := HB2.out; omega)⟩
      clear hxb
      generalize wr.alloc (.cells #[.int .i64 x.kind, .string x.id, .string x.parent, .string x.number, .string x.north, .string x.south, .bool x.gone] 26) = w1 at *
      obtain ⟨pb, hpb⟩ : ∃ b, Dg.properI x = b := ⟨_, rfl⟩
      refine (item_any x pb hpb hxw.out _).mono ?_
      rintro e w2 ⟨rfl, hb2⟩
      have hx2 := bnext hx hb2
      have hrow2 := iNext hrow hb2
      have hM2 := ownsMap_off (S := []) hMr (Off.of_below hx2) (by simp)
      clear hrow hx hb2 hMr
      obtain ⟨c0, c1, c2, c3, c4, c5, c6⟩ := iCells hrow2
      cases pb with
      | false =>
        have hR0 := hide (show false = R by rw [← HR.out]; exact (hbad.out (step_none1 s x hpb)).symm)
        clear hpb hM2
        go_wp2
        go_ret
        exact ⟨ret_bool hR0.out, by rw [← hR0.out]; exact hfin.out _ (Off.of_below hx2)⟩
      | true =>
        have hpb' := hide hpb; clear hpb
        obtain ⟨sb, hsb⟩ : ∃ b, Dg.inB s.seen x.id = b := ⟨_, rfl⟩
        have hrun := seenS_run hM2 x.id hxw.out.iz
        rw [hsb] at hrun
        cases sb with
        | true =>
          have hR0 := hide (show false = R by rw [← HR.out]; exact (hbad.out (step_none2 s x hsb)).symm)
          clear hsb hM2
          go_wp2
          go_ret
          exact ⟨ret_bool hR0.out, by rw [← hR0.out]; exact hfin.out _ (Off.of_below hx2)⟩
        | false =>
          have hsb' := hide hsb; clear hsb
          obtain ⟨w3, hrun3, hM3, hgr⟩ := World.ownsMap.update (w := w2) hM2 lawStr Tryz.underlying143 (by unfold maxLen; omega) (key_str x.id hxw.out.iz) (plainElem_bool (H := Unit) Tryz.underlying4 true)
          have ho3 : Off [mb] wr w3 := (Off.of_below (S := [mb]) hx2).trans (T := [mb]) (Off.of_grown hgr (fun j hj => by cases hj; simp)) (fun g hg => Or.inl hg)
          have hpe : x.parent.toList.isEmpty = decide (x.parent = Dg.nil8) := (emp_iff _).symm
          have HO3 := hide ho3; clear ho3
          go_upto_region 10 with (fail)
          have hrow3 : w3.heap[wr.heap.size]? = some (.cells #[.int .i64 x.kind, .string x.id, .string x.parent, .string x.number, .string x.north, .string x.south, .bool x.gone] 26 (0, 0)) := (hgr.block _ (lt_of_block hrow2) (by intro e; cases e; omega)).trans hrow2
          have hop3 : OpenAt (mb :: S) w3 Ao s.op := hop.off (HO3.out.wide (fun g hg => by rw [List.mem_singleton.1 hg]; exact List.mem_cons_self ..)) (fun g hg => Or.inl hg)
          clear c0 c1 c2 c3 c4 c5 c6 hrun hrun3 hgr hrow2 hM2 hx2 hop
          obtain ⟨c0, c1, c2, c3, c4, c5, c6⟩ := iCells hrow3
          have hs3 := hide HO3.out.size
          by_cases hp : x.parent = Dg.nil8
          · have hko := hide (show Dg.kOf s.op x.parent = some 0 by unfold Dg.kOf; rw [if_pos hp])
            have hpb : x.parent.toList.isEmpty = true := hpe.trans (decide_eq_true hp)
            clear hpe hp
            have hop0 := hop_.out
            go_upto_region 14 with (fail)
            obtain ⟨kk, hkk⟩ : ∃ kk : Nat, kk = 0 := ⟨0, rfl⟩
            rw [show Value.int .i64 0 = Value.int .i64 (kk : Int) by rw [hkk]; rfl]
            have hko2 := hide (show Dg.kOf s.op x.parent = some kk by rw [hkk]; exact hko.out)
            clear hko
            have hko := hko2
            clear hko2
            have hk1 : kk ≤ s.op.length := by omega
            have hk1I : (kk : Int) ≤ (s.op.length : Int) := by omega
            have hk1c : (kk : Int) ≤ (co : Int) := by omega
            have hk0' : (0 : Int) ≤ (kk : Int) := by omega
            clear hkk
            have hwl := Dg.walk_len (by omega) hwt.out
            have ho_len : (s.op.take kk).length = kk := by rw [List.length_take]; omega
            have hst' := step_some s x hpb'.out hsb'.out _ hko.out
            have hwt' := hgood.out _ _ hst'
            have hbw3 : Below w.heap.size wr w3 := HO3.out.below hoff.out.size (fun g hg => by rw [List.mem_singleton.1 hg]; omega)
            have hIv3 := (HV.out).stable k S wr w3 hiv.out (fun g hg => HO3.out.block g ((HV.out).lt k S wr hiv.out g hg).2 (fun hm => hmS.out (by rw [← List.mem_singleton.1 hm]; exact hg))) hbw3
            have hnS : Hid (wr.heap.size ∉ S) := fun hm => by have := ((HV.out).lt k S wr hiv.out _ hm).2; omega
            have hopk := hop3.take kk
            have hcall := (HV.out).call k S w3 (s.op.take kk) Ao kk vs _ hkl hIv3 hwt' hwl hopk.strs (Nat.le_of_eq ho_len) (Nat.le_trans hoff.out.size hs3.out)
            rw [ho_len] at hcall
            have HC := hide hcall; have HWT := hide hwt'; have HOL := hide ho_len; have HKO := hide hko.out
            clear hcall hwt' hst' hIv3 hwl ho_len hko
            have en := (HV.out).enters
            go_wp2_with fail
            clear en
            refine HC.out.mono ?_
            rintro e w5 ⟨rfl, S', hI5, ho5, hS5⟩
            have hrow5 := ho5.row hrow3 hnS.out
            have hM5 := ownsMap_off hM3 ho5 hmS.out
            have hoff5 : Off (mb :: S0) W0 w5 := (hofr.trans HO3.out (fun g hg => Or.inl (by rw [List.mem_singleton.1 hg]; exact List.mem_cons_self ..))).trans ho5 (fun g hg => (hSr.out g hg).imp (fun h => List.mem_cons_of_mem _ h) id)
            have hS5' : Hid (∀ g ∈ S', g ∈ S0 ∨ W0.heap.size ≤ g) := fun g hg => by
              rcases hS5 g hg with h1 | h1
              · exact hSr.out g h1
              · exact Or.inr (by have := hofr.size; have := HO3.out.size; omega)
            have hop5 : OpenAt (mb :: S') w5 Ao (s.op.take kk) := hopk.off (ho5.wide (fun g hg => List.mem_cons_of_mem _ hg)) (fun g hg => by
              rcases List.mem_cons.1 hg with rfl | hg
              · exact Or.inl (List.mem_cons_self ..)
              · exact (hS5 g hg).imp (fun h => List.mem_cons_of_mem _ h) id)
            have hsz5 := hide ho5.size
            have hI5' := hide hI5
            have hlt5 := hide ((HV.out).lt _ _ _ hI5)
            clear c0 c1 c2 c3 c4 c5 c6 hrow3 hM3 ho5 hS5 hop3 hopk hI5 HC
            obtain ⟨c0, c1, c2, c3, c4, c5, c6⟩ := iCells hrow5
            have hM6 : w5.ownsMap Tryz.prog 9 rBo mb (k + 1) (seenS (x.id :: s.seen)) := hM5
            clear hM5
            by_cases hkd : x.kind = 1
            · have kb : (x.kind == 1) = true := beq_iff_eq.2 hkd
              have HWT2 := HWT.out
              rw [if_pos hkd] at HWT2
              have HW3 := hide HWT2
              clear hkd HWT HWT2 hrow5
              obtain ⟨ti, ti1, ti2, ti3, ti4⟩ := info_parts strInfo
              have TI := hide (And.intro ti1 (And.intro ti2 (And.intro ti3 ti4)))
              clear ti1 ti2 ti3 ti4
              have hnone : Hid (Ao = none → kk = 0 ∧ kk = 0) := fun e => by
                rcases Nat.eq_zero_or_pos kk with h0 | h0
                · exact ⟨h0, h0⟩
                · obtain ⟨b', e', _⟩ := hop5.at_ (by rw [HOL.out]; exact h0)
                  rw [e] at e'
                  cases e'
              have hol : Hid (∀ b', Ao = some b' → ∀ (j : Nat) u, ((s.op.take kk).map Value.string)[j]? = some u → (w5.alloc (.cells #[.string x.id] 9)).cell? (b'.add j) = some u) := fun b' e j u hj => by
                rw [List.getElem?_map] at hj
                cases hq : (s.op.take kk)[j]? with
                | none => rw [hq] at hj; cases hj
                | some z =>
                  rw [hq] at hj
                  cases hj
                  obtain ⟨b2, e2, hb2, _, hc2⟩ := hop5.at_ (by have := (List.getElem?_eq_some_iff.1 hq).1; omega)
                  rw [e] at e2
                  cases e2
                  have := hc2 j z hq
                  rw [← this]
                  rw [addr_off, Nat.zero_add]
                  exact World.cell?_of_block (Below.heap_alloc _ _ _ hb2)
              go_wp2_with (at_builtin; refine wpList_append_grows _ rfl (.tmp 52) (.tmp 55) _ rfl _ ti _ 1 16 Tryz.underlying27 TI.out.1 TI.out.2.1 TI.out.2.2.1 TI.out.2.2.2 rfl (by decide) Ao kk kk ((s.op.take kk).map Value.string) rfl hnone.out (by rw [List.length_map, HOL.out, Nat.mul_one]) hol.out ⟨w5.heap.size, 0, none⟩ 1 1 [.string x.id] rfl rfl (fun j u hj => by
                  cases j with
                  | zero => cases hj; exact cell_of_row _ _ _ _ _ (0, 0) (heap_alloc_new w5 _)
                  | succ j => cases hj) (fun u hu => by rw [List.mem_singleton.1 hu]; rfl) (by omega) (by unfold maxLen; omega) (by omega) ?_; intro v6 w6 hown6 hg6)
              have hown : OwnS w6 (w5.alloc (.cells #[.string x.id] 9)).heap.size v6 (s.op.take kk ++ [x.id]) := by
                unfold OwnS OwnV
                rw [List.map_append, List.length_append, List.length_map, HOL.out]
                exact hown6
              have hx6 : Below w5.heap.size w5 w6 := (Below.news (Below.refl w5.heap.size w5) (.cells #[.string x.id] 9)).trans ((grown_belowN hg6).mono (by simp))
              obtain ⟨A6, c6', rfl, hc6, hop6⟩ := OpenAt.own (S := mb :: S') hown (fun g hg => by
                have h1 : (w5.alloc (.cells #[.string x.id] 9)).heap.size = w5.heap.size + 1 := by simp
                rw [h1]
                rcases List.mem_cons.1 hg with rfl | hg
                · have := hsz5.out; have := hs3.out; omega
                · have := (hlt5.out g hg).2; omega)
              have hlen6 : (s.op.take kk ++ [x.id]).length = kk + 1 := by rw [List.length_append, HOL.out]; rfl
              have hM7 := ownsMap_off (S := []) hM6 (Off.of_below hx6) (by simp)
              have hI7 := hide ((HV.out).stable (k + 1) S' w5 w6 hI5'.out (fun g hg => hx6.block g (hlt5.out g hg).2) (hx6.mono (by have := hoff.out.size; have := hs3.out; have := hsz5.out; omega)))
              have hoff7 := hoff5.next hx6
              clear hown6 hown hg6
              go_roundw
              case rel => exact ⟨k + 1, _, _, A6, c6', S', by omega, by go_num, by first | rfl | (rw [hlen6]), hc6, HW3, hop6, hM7, hI7, hoff7, hS5'⟩
              case measure => simp [intOf]; omega
            · have kb : (x.kind == 1) = false := beq_eq_false_iff_ne.2 hkd
              have HWT2 := HWT.out
              rw [if_neg hkd] at HWT2
              have HW3 := hide HWT2
              clear hkd HWT HWT2 hrow5
              go_wp2
              go_roundw
              case rel => exact ⟨k + 1, _, _, Ao, kk, S', by omega, by go_num, by rw [HOL.out], by rw [HOL.out]; exact Nat.le_refl _, HW3, hop5, hM6, hI5', hoff5, hS5'⟩
              case measure => simp [intOf]; omega
          · have hpb : x.parent.toList.isEmpty = false := hpe.trans (decide_eq_false hp)
            clear hpe
            obtain ⟨ib, hib⟩ : ∃ b, Dg.inB s.op x.parent = b := ⟨_, rfl⟩
            go_wp2_with fail
            refine (sindex_s Ao s.op.length co s.op x.parent _ rfl (by have := hop_.out; omega) hop3.strs).mono ?_
            rintro e w4 ⟨rfl, hw4⟩
            rw [hw4]
            clear hw4
            cases ib with
            | false =>
              have hR0 := hide (show false = R by rw [← HR.out]; exact (hbad.out (step_none3 s x hpb'.out hsb'.out (by unfold Dg.kOf; rw [if_neg hp, hib]; rfl))).symm)
              rw [idx_no hib]
              clear hib hp hM3
              go_wp2
              go_ret
              exact ⟨ret_bool hR0.out, by rw [← hR0.out]; exact hfin.out _ HO3.out⟩
            | true =>
              rw [idx_yes hib]
              have hko := hide (show Dg.kOf s.op x.parent = some (s.op.findIdx (fun d => decide (d = x.parent)) + 1) by unfold Dg.kOf; rw [if_neg hp, if_pos hib])
              have hfi : s.op.findIdx (fun d => decide (d = x.parent)) < s.op.length := by
                refine List.findIdx_lt_length_of_exists ?_
                exact ⟨x.parent, (Dg.inB_iff _ _).1 hib, decide_eq_true rfl⟩
              generalize s.op.findIdx (fun d => decide (d = x.parent)) = fi at *
              clear hib hp
              have hop0 := hop_.out
              obtain ⟨kk, hkk⟩ : ∃ kk, fi + 1 = kk := ⟨_, rfl⟩
              obtain ⟨hwf, hne, hk1, hk1I, hk1c, hk0'⟩ := kk_facts hkk hfi hop0 (Nat.le_trans hk hn) hco
              rw [hkk] at hko
              clear hkk hfi
              have hwl := Dg.walk_len (by omega) hwt.out
              have ho_len : (s.op.take kk).length = kk := by rw [List.length_take]; omega
              have hst' := step_some s x hpb'.out hsb'.out _ hko.out
              have hwt' := hgood.out _ _ hst'
              have hbw3 : Below w.heap.size wr w3 := HO3.out.below hoff.out.size (fun g hg => by rw [List.mem_singleton.1 hg]; omega)
              have hIv3 := (HV.out).stable k S wr w3 hiv.out (fun g hg => HO3.out.block g ((HV.out).lt k S wr hiv.out g hg).2 (fun hm => hmS.out (by rw [← List.mem_singleton.1 hm]; exact hg))) hbw3
              have hnS : Hid (wr.heap.size ∉ S) := fun hm => by have := ((HV.out).lt k S wr hiv.out _ hm).2; omega
              have hopk := hop3.take kk
              have hcall := (HV.out).call k S w3 (s.op.take kk) Ao kk vs _ hkl hIv3 hwt' hwl hopk.strs (Nat.le_of_eq ho_len) (Nat.le_trans hoff.out.size hs3.out)
              rw [ho_len] at hcall
              have HC := hide hcall; have HWT := hide hwt'; have HOL := hide ho_len; have HKO := hide hko.out
              clear hcall hwt' hst' hIv3 hwl ho_len hko
              have en := (HV.out).enters
              go_wp2_with fail
              clear en
              refine HC.out.mono ?_
              rintro e w5 ⟨rfl, S', hI5, ho5, hS5⟩
              have hrow5 := ho5.row hrow3 hnS.out
              have hM5 := ownsMap_off hM3 ho5 hmS.out
              have hoff5 : Off (mb :: S0) W0 w5 := (hofr.trans HO3.out (fun g hg => Or.inl (by rw [List.mem_singleton.1 hg]; exact List.mem_cons_self ..))).trans ho5 (fun g hg => (hSr.out g hg).imp (fun h => List.mem_cons_of_mem _ h) id)
              have hS5' : Hid (∀ g ∈ S', g ∈ S0 ∨ W0.heap.size ≤ g) := fun g hg => by
                rcases hS5 g hg with h1 | h1
                · exact hSr.out g h1
                · exact Or.inr (by have := hofr.size; have := HO3.out.size; omega)
              have hop5 : OpenAt (mb :: S') w5 Ao (s.op.take kk) := hopk.off (ho5.wide (fun g hg => List.mem_cons_of_mem _ hg)) (fun g hg => by
                rcases List.mem_cons.1 hg with rfl | hg
                · exact Or.inl (List.mem_cons_self ..)
                · exact (hS5 g hg).imp (fun h => List.mem_cons_of_mem _ h) id)
              have hsz5 := hide ho5.size
              have hI5' := hide hI5
              have hlt5 := hide ((HV.out).lt _ _ _ hI5)
              clear c0 c1 c2 c3 c4 c5 c6 hrow3 hM3 ho5 hS5 hop3 hopk hI5 HC
              obtain ⟨c0, c1, c2, c3, c4, c5, c6⟩ := iCells hrow5
              have hM6 : w5.ownsMap Tryz.prog 9 rBo mb (k + 1) (seenS (x.id :: s.seen)) := hM5
              clear hM5
              by_cases hkd : x.kind = 1
              · have kb : (x.kind == 1) = true := beq_iff_eq.2 hkd
                have HWT2 := HWT.out
                rw [if_pos hkd] at HWT2
                have HW3 := hide HWT2
                clear hkd HWT HWT2 hrow5
                obtain ⟨ti, ti1, ti2, ti3, ti4⟩ := info_parts strInfo
                have TI := hide (And.intro ti1 (And.intro ti2 (And.intro ti3 ti4)))
                clear ti1 ti2 ti3 ti4
                have hnone : Hid (Ao = none → kk = 0 ∧ kk = 0) := fun e => by
                  rcases Nat.eq_zero_or_pos kk with h0 | h0
                  · exact ⟨h0, h0⟩
                  · obtain ⟨b', e', _⟩ := hop5.at_ (by rw [HOL.out]; exact h0)
                    rw [e] at e'
                    cases e'
                have hol : Hid (∀ b', Ao = some b' → ∀ (j : Nat) u, ((s.op.take kk).map Value.string)[j]? = some u → (w5.alloc (.cells #[.string x.id] 9)).cell? (b'.add j) = some u) := fun b' e j u hj => by
                  rw [List.getElem?_map] at hj
                  cases hq : (s.op.take kk)[j]? with
                  | none => rw [hq] at hj; cases hj
                  | some z =>
                    rw [hq] at hj
                    cases hj
                    obtain ⟨b2, e2, hb2, _, hc2⟩ := hop5.at_ (by have := (List.getElem?_eq_some_iff.1 hq).1; omega)
                    rw [e] at e2
                    cases e2
                    have := hc2 j z hq
                    rw [← this]
                    rw [addr_off, Nat.zero_add]
                    exact World.cell?_of_block (Below.heap_alloc _ _ _ hb2)
                go_wp2_with (at_builtin; refine wpList_append_grows _ rfl (.tmp 52) (.tmp 55) _ rfl _ ti _ 1 16 Tryz.underlying27 TI.out.1 TI.out.2.1 TI.out.2.2.1 TI.out.2.2.2 rfl (by decide) Ao kk kk ((s.op.take kk).map Value.string) rfl hnone.out (by rw [List.length_map, HOL.out, Nat.mul_one]) hol.out ⟨w5.heap.size, 0, none⟩ 1 1 [.string x.id] rfl rfl (fun j u hj => by
                    cases j with
                    | zero => cases hj; exact cell_of_row _ _ _ _ _ (0, 0) (heap_alloc_new w5 _)
                    | succ j => cases hj) (fun u hu => by rw [List.mem_singleton.1 hu]; rfl) (by omega) (by unfold maxLen; omega) (by omega) ?_; intro v6 w6 hown6 hg6)
                have hown : OwnS w6 (w5.alloc (.cells #[.string x.id] 9)).heap.size v6 (s.op.take kk ++ [x.id]) := by
                  unfold OwnS OwnV
                  rw [List.map_append, List.length_append, List.length_map, HOL.out]
                  exact hown6
                have hx6 : Below w5.heap.size w5 w6 := (Below.news (Below.refl w5.heap.size w5) (.cells #[.string x.id] 9)).trans ((grown_belowN hg6).mono (by simp))
                obtain ⟨A6, c6', rfl, hc6, hop6⟩ := OpenAt.own (S := mb :: S') hown (fun g hg => by
                  have h1 : (w5.alloc (.cells #[.string x.id] 9)).heap.size = w5.heap.size + 1 := by simp
                  rw [h1]
                  rcases List.mem_cons.1 hg with rfl | hg
                  · have := hsz5.out; have := hs3.out; omega
                  · have := (hlt5.out g hg).2; omega)
                have hlen6 : (s.op.take kk ++ [x.id]).length = kk + 1 := by rw [List.length_append, HOL.out]; rfl
                have hM7 := ownsMap_off (S := []) hM6 (Off.of_below hx6) (by simp)
                have hI7 := hide ((HV.out).stable (k + 1) S' w5 w6 hI5'.out (fun g hg => hx6.block g (hlt5.out g hg).2) (hx6.mono (by have := hoff.out.size; have := hs3.out; have := hsz5.out; omega)))
                have hoff7 := hoff5.next hx6
                clear hown6 hown hg6
                go_roundw
                case rel => exact ⟨k + 1, _, _, A6, c6', S', by omega, by go_num, by first | rfl | (rw [hlen6]), hc6, HW3, hop6, hM7, hI7, hoff7, hS5'⟩
                case measure => simp [intOf]; omega
              · have kb : (x.kind == 1) = false := beq_eq_false_iff_ne.2 hkd
                have HWT2 := HWT.out
                rw [if_neg hkd] at HWT2
                have HW3 := hide HWT2
                clear hkd HWT HWT2 hrow5
                go_wp2
                go_roundw
                case rel => exact ⟨k + 1, _, _, Ao, kk, S', by omega, by go_num, by rw [HOL.out], by rw [HOL.out]; exact Nat.le_refl _, HW3, hop5, hM6, hI5', hoff5, hS5'⟩
                case measure => simp [intOf]; omega
    · obtain rfl : k = n := by omega
      have hrow := hofr.row hc0 (fun hm => by
        rcases List.mem_cons.1 hm with e | e
        · omega
        · have := hS0.out _ e; omega)
      have hcc := iCells0 hrow
      have hRR := hide (show decide ((k : Int) ≤ 2000) = R by
        rw [← HR.out]
        unfold Dg.validC
        rw [HL.out, hwt.out, Option.isSome_some, Bool.true_and, Bool.eq_iff_iff, decide_eq_true_eq, decide_eq_true_eq]
        omega)
      clear hrow hop hMr
      go_wp2
      go_ret
      exact ⟨ret_bool hRR.out, k, S, fun _ => rfl, hiv.out, hoff.out, fun g hg => (hSr.out g hg).imp id (fun h => by have := HB2.out; omega)⟩
end Go.Proofs.YtobhpeockinnjaaGreatDoor

