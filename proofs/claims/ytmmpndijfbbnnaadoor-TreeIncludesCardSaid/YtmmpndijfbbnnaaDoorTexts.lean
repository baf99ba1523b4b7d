/- Texts of the reference: the strings that are digested for a root. -/
import Derived.Test.YtmmpndijfbbnnaaDoorRExt
namespace Go.Proofs.YtmmpndijfbbnnaaDoor
open Go Go.RowKit Go.Sort
theorem add_off0 (g j : Nat) : (⟨g, 0, none⟩ : Addr).add j = ⟨g, j, none⟩ := by rw [addr_off, Nat.zero_add]
theorem jB_size (l : List ByteArray) (h3 : l.length ≤ 3) (h : ∀ s ∈ l, s.size ≤ 1048576) : (Dg.jB l).size ≤ 4194304 := by
  rw [Dg.jB, Dg.size_B]
  have h1 := Dg.joinedL_len_le l 1048576 h
  have h2 : l.length * (1048576 + 21) ≤ 3 * (1048576 + 21) := Nat.mul_le_mul_right _ h3
  omega
theorem texts_len (n : Nat) : ∀ l : List ByteArray, l.length = n → 1 ≤ (Dg.texts l).length ∧ (Dg.texts l).length ≤ 2 * n + 1 ∧ (1 ≤ n → (Dg.texts l).length ≤ 2 * n - 1) := by
  induction n using Nat.strongRecOn with
  | _ n ih =>
  intro l hl
  by_cases h0 : n = 0
  · obtain rfl : l = [] := List.length_eq_zero_iff.1 (hl.trans h0)
    rw [Dg.texts_nil]
    simp
    omega
  by_cases h1 : n = 1
  · obtain ⟨x, rfl⟩ : ∃ s, l = [s] := List.length_eq_one_iff.1 (hl.trans h1)
    rw [Dg.texts_one]
    simp
    omega
  have g1 := Dg.half_pos n
  have g2 := Dg.half_lt n (by omega)
  rw [Dg.texts_more l (by omega), hl, List.length_append, List.length_append, List.length_singleton]
  have a := ih (Dg.half n) g2 (l.take (Dg.half n)) (by rw [List.length_take]; omega)
  have b := ih (n - Dg.half n) (by omega) (l.drop (Dg.half n)) (by rw [List.length_drop]; omega)
  have a2 := a.2.2 (by omega)
  have b2 := b.2.2 (by omega)
  omega
theorem texts_size (n : Nat) : ∀ l : List ByteArray, l.length = n → (∀ s ∈ l, s.size ≤ 1048576) → ∀ t ∈ Dg.texts l, t.size ≤ 4194304 := by
  induction n using Nat.strongRecOn with
  | _ n ih =>
  intro l hl hs t ht
  by_cases h0 : n = 0
  · obtain rfl : l = [] := List.length_eq_zero_iff.1 (hl.trans h0)
    rw [Dg.texts_nil, List.mem_singleton] at ht
    rw [ht]; exact jB_size _ (by simp) (mem1 (by decide))
  by_cases h1 : n = 1
  · obtain ⟨x, rfl⟩ : ∃ s, l = [s] := List.length_eq_one_iff.1 (hl.trans h1)
    rw [Dg.texts_one, List.mem_singleton] at ht
    rw [ht]; exact jB_size _ (by simp) (mem2 (by decide) (hs x (by simp)))
  have g1 := Dg.half_pos n
  have g2 := Dg.half_lt n (by omega)
  rw [Dg.texts_more l (by omega), hl] at ht
  rcases List.mem_append.1 ht with ht | ht
  · rcases List.mem_append.1 ht with ht | ht
    · exact ih (Dg.half n) g2 (l.take (Dg.half n)) (by rw [List.length_take]; omega) (fun s hs' => hs s (List.mem_of_mem_take hs')) t ht
    · exact ih (n - Dg.half n) (by omega) (l.drop (Dg.half n)) (by rw [List.length_drop]; omega) (fun s hs' => hs s (List.mem_of_mem_drop hs')) t ht
  · rw [List.mem_singleton] at ht
    rw [ht]; exact jB_size _ (by simp) (mem3 (by decide) (by rw [root_size]; decide) (by rw [root_size]; decide))
/-- A slice of the call's own that is not empty. -/
theorem OwnS.full {w : World} {B : Nat} {v : Value} {l : List ByteArray} (h : OwnS w B v l) (h0 : 0 < l.length) : ∃ g cap, v = .slice (some ⟨g, 0, none⟩) l.length cap ∧ B ≤ g ∧ g < w.heap.size := by
  rcases h.cases with ⟨_, rfl⟩ | ⟨g, cap, h1, h2, h3, _⟩
  · simp at h0
  · exact ⟨g, cap, h1, h2, h3⟩
theorem OwnS.getc {w : World} {B g n cap : Nat} {l : List ByteArray} (h : OwnS w B (.slice (some ⟨g, 0, none⟩) n cap) l) : ∀ j (s : ByteArray), l[j]? = some s → w.cell? ⟨g, j, none⟩ = some (.string s) := by
  rcases h.cases with ⟨h, _⟩ | ⟨g', cap', h1, h2, h3, _, h4, _⟩
  · injection h with h _ _; cases h
  · injection h1 with h1 _ _
    injection h1 with h1
    injection h1 with h1 _ _
    subst h1
    exact h4
/-- A list of strings onto strings of the call's own, at a step of a region that draws its order. -/
theorem step_ld {w : World} {ops : Array Oper} {o : Oper} {a : Act} {K : Act → World → Prop} {Q : Exit → Act → World → Prop} {E : Prop} (hgd : o.guard = none) (sl x : Operand)
    (ho : o.op = .call { callee := .builtin .append, args := #[sl, x], argTypes := #[22, 22] })
    (B B' : Nat) (v : Value) (l l' : List ByteArray) (hs : a.eval sl = v) (hown : OwnS w B v l) (g' cap' : Nat) (hx : a.eval x = .slice (some ⟨g', 0, none⟩) l'.length cap') (hown' : OwnS w B' (.slice (some ⟨g', 0, none⟩) l'.length cap') l')
    (h0 : 0 < l'.length) (hlen : l.length + l'.length < 1099511627776) (hB : B ≤ w.heap.size)
    (h : ∀ g cap w', OwnS w' B (.slice (some ⟨g, 0, none⟩) (l.length + l'.length) cap) (l ++ l') → Below B w w' → w.grownBy w' v.ownBlock → (v.ownBlock = some g ∨ g = w.heap.size) → K (a.put o.dst (.slice (some ⟨g, 0, none⟩) (l.length + l'.length) cap)) w') :
    if Region.wanted o (yielded ops a.tmps) = true then Oper.wp Tryd.prog o a w K Q else E := by
  obtain ⟨i, h1, h2, h3, h4⟩ := info_parts strInfo
  unfold OwnS OwnV at hown
  rw [List.length_map] at hown
  have hat := hown'.getc
  refine step_append_lies w hgd sl x 22 ho B 9 i _ 1 16 Tryd.underlying22 h1 h2 h3 h4 rfl (by omega) v l.length _ hs hown ⟨g', 0, none⟩ l'.length cap' (l'.map .string) hx (by rw [List.length_map, Nat.mul_one]) ?_ ?_ h0 (by unfold maxLen; omega) (by omega) hB w.heap.size rfl fun g cap w' h5 h6 h7 _ => h g cap w' ?_ (below_own hown h6 hB) h6 h7
  · intro j u' hj
    rw [List.getElem?_map] at hj
    cases hq : l'[j]? with
    | none => rw [hq] at hj; cases hj
    | some s =>
      rw [hq] at hj
      obtain rfl : Value.string s = u' := by simpa using hj
      rw [add_off0]
      exact hat j s hq
  · intro u' hu'
    obtain ⟨s, _, rfl⟩ := List.mem_map.1 hu'
    rfl
  · unfold OwnS OwnV
    rw [List.length_map, List.length_append, List.map_append]
    exact h5
end Go.Proofs.YtmmpndijfbbnnaaDoor
