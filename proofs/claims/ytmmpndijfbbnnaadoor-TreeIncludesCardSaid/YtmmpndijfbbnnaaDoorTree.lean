/- Trees of lists in plain Lean: what package tree computes. No program in sight. No conditions. -/
import Derived.Test.YtmmpndijfbbnnaaDoorDgLaw
namespace Go.Proofs.YtmmpndijfbbnnaaDoor.Dg
def halfF : Nat → Nat → Nat → Nat
  | 0, k, _ => k
  | f + 1, k, n => if 2 * k < n then halfF f (2 * k) n else k
def half (n : Nat) : Nat := halfF n 1 n
theorem halfF_ge (f k n : Nat) : k ≤ halfF f k n := by
  induction f generalizing k with
  | zero => exact Nat.le_refl _
  | succ f ih =>
    rw [halfF]
    split
    · exact Nat.le_trans (by omega) (ih (2 * k))
    · exact Nat.le_refl _
theorem halfF_lt (f k n : Nat) (h : k < n) : halfF f k n < n := by
  induction f generalizing k with
  | zero => exact h
  | succ f ih =>
    rw [halfF]
    split
    · rename_i h2; exact ih _ h2
    · exact h
theorem halfF_half (f k n : Nat) (h1 : 1 ≤ k) (h : n ≤ k + f) : n ≤ 2 * halfF f k n := by
  induction f generalizing k with
  | zero => rw [halfF]; omega
  | succ f ih =>
    rw [halfF]
    split
    · exact ih _ (by omega) (by omega)
    · omega
theorem half_pos (n : Nat) : 1 ≤ half n := halfF_ge _ _ _
theorem half_lt (n : Nat) (h : 2 ≤ n) : half n < n := halfF_lt _ _ _ h
theorem half_two (n : Nat) : n ≤ 2 * half n := halfF_half _ _ _ (Nat.le_refl _) (by omega)
def sEmpty : ByteArray := ⟨#[101, 109, 112, 116, 121]⟩
def sLeaf : ByteArray := ⟨#[108, 101, 97, 102]⟩
def sNode : ByteArray := ⟨#[110, 111, 100, 101]⟩
def emptyB : ByteArray := listB [sEmpty]
def leafB (s : ByteArray) : ByteArray := listB [sLeaf, s]
def nodeB (a b : ByteArray) : ByteArray := listB [sNode, a, b]
theorem nodeB_congr {a b c d : ByteArray} (h : a = c) (h' : b = d) : nodeB a b = nodeB c d := by rw [h, h']
def rootF : Nat → List ByteArray → ByteArray
  | 0, _ => emptyB
  | _ + 1, [] => emptyB
  | _ + 1, [s] => leafB s
  | f + 1, s :: t :: r => nodeB (rootF f ((s :: t :: r).take (half (r.length + 2)))) (rootF f ((s :: t :: r).drop (half (r.length + 2))))
def root (l : List ByteArray) : ByteArray := rootF l.length l
theorem rootF_eq (f g : Nat) (l : List ByteArray) (hf : l.length ≤ f) (hg : l.length ≤ g) : rootF f l = rootF g l := by
  induction f generalizing g l with
  | zero =>
    obtain rfl : l = [] := by cases l with | nil => rfl | cons a r => simp at hf
    cases g <;> rfl
  | succ f ih =>
    match l, hf, hg with
    | [], _, _ => cases g <;> rfl
    | [s], _, hg =>
      cases g with
      | zero => simp at hg
      | succ g => rfl
    | s :: t :: r, hf, hg =>
      cases g with
      | zero => simp at hg
      | succ g =>
        have h1 := half_pos (r.length + 2)
        have h2 := half_lt (r.length + 2) (by omega)
        simp only [List.length_cons] at hf hg
        rw [rootF, rootF]
        refine nodeB_congr (ih _ _ ?_ ?_) (ih _ _ ?_ ?_) <;> simp only [List.length_take, List.length_drop, List.length_cons] <;> omega
theorem root_nil : root [] = emptyB := rfl
theorem root_one (s : ByteArray) : root [s] = leafB s := rfl
theorem root_more (l : List ByteArray) (h : 2 ≤ l.length) : root l = nodeB (root (l.take (half l.length))) (root (l.drop (half l.length))) := by
  match l, h with
  | s :: t :: r, h =>
    have h1 := half_pos (r.length + 2)
    have h2 := half_lt (r.length + 2) (by omega)
    show rootF ((s :: t :: r).length) _ = _
    show rootF ((r.length + 1) + 1) _ = _
    rw [rootF]
    refine nodeB_congr (rootF_eq _ _ _ ?_ (Nat.le_refl _)) (rootF_eq _ _ _ ?_ (Nat.le_refl _)) <;> simp only [List.length_take, List.length_drop, List.length_cons] <;> omega
/-- The path of an element: first the lowest. -/
def pathF : Nat → List ByteArray → Nat → List ByteArray
  | 0, _, _ => []
  | f + 1, l, i => if l.length ≤ 1 then [] else
      let k := half l.length
      if i < k then pathF f (l.take k) i ++ [root (l.drop k)] else pathF f (l.drop k) (i - k) ++ [root (l.take k)]
def path (l : List ByteArray) (i : Nat) : List ByteArray := pathF l.length l i
theorem pathF_eq (f g : Nat) (l : List ByteArray) (i : Nat) (hf : l.length ≤ f) (hg : l.length ≤ g) : pathF f l i = pathF g l i := by
  induction f generalizing g l i with
  | zero =>
    obtain rfl : l = [] := by cases l with | nil => rfl | cons a r => simp at hf
    cases g <;> rfl
  | succ f ih =>
    cases g with
    | zero =>
      obtain rfl : l = [] := by cases l with | nil => rfl | cons a r => simp at hg
      rfl
    | succ g =>
      rw [pathF, pathF]
      split
      · rfl
      · have h1 := half_pos l.length
        have h2 := half_lt l.length (by omega)
        simp only []
        split
        · rw [ih g _ _ (by rw [List.length_take]; omega) (by rw [List.length_take]; omega)]
        · rw [ih g _ _ (by rw [List.length_drop]; omega) (by rw [List.length_drop]; omega)]
theorem path_short (l : List ByteArray) (i : Nat) (h : l.length ≤ 1) : path l i = [] := by
  unfold path
  cases l with
  | nil => rfl
  | cons a r => rw [List.length_cons, pathF, if_pos (by simpa using h)]
theorem path_fst (l : List ByteArray) (i : Nat) (h : 2 ≤ l.length) (hi : i < half l.length) : path l i = path (l.take (half l.length)) i ++ [root (l.drop (half l.length))] := by
  have h1 := half_pos l.length
  have h2 := half_lt l.length h
  unfold path
  obtain ⟨f, hf⟩ : ∃ f, l.length = f + 1 := ⟨l.length - 1, by omega⟩
  conv => lhs; rw [hf, pathF, if_neg (by omega)]
  simp only []
  rw [if_pos hi, pathF_eq f _ _ _ (by rw [List.length_take]; omega) (Nat.le_refl _)]
theorem path_snd (l : List ByteArray) (i : Nat) (h : 2 ≤ l.length) (hi : ¬ i < half l.length) : path l i = path (l.drop (half l.length)) (i - half l.length) ++ [root (l.take (half l.length))] := by
  have h1 := half_pos l.length
  have h2 := half_lt l.length h
  unfold path
  obtain ⟨f, hf⟩ : ∃ f, l.length = f + 1 := ⟨l.length - 1, by omega⟩
  conv => lhs; rw [hf, pathF, if_neg (by omega)]
  simp only []
  rw [if_neg hi, pathF_eq f _ _ _ (by rw [List.length_drop]; omega) (Nat.le_refl _)]
/-- The link of m in a list. -/
def linkF : Nat → List ByteArray → Nat → Bool → List ByteArray
  | 0, l, _, whole => if whole then [] else [root l]
  | f + 1, l, m, whole => if m = l.length then (if whole then [] else [root l]) else
      let k := half l.length
      if m ≤ k then linkF f (l.take k) m whole ++ [root (l.drop k)] else linkF f (l.drop k) (m - k) false ++ [root (l.take k)]
def link (l : List ByteArray) (m : Nat) (whole : Bool) : List ByteArray := linkF l.length l m whole
theorem linkF_eq (f g : Nat) (l : List ByteArray) (m : Nat) (w : Bool) (hm : 1 ≤ m) (hml : m ≤ l.length) (hf : l.length ≤ f) (hg : l.length ≤ g) : linkF f l m w = linkF g l m w := by
  induction f generalizing g l m w with
  | zero => omega
  | succ f ih =>
    cases g with
    | zero => omega
    | succ g =>
      rw [linkF, linkF]
      split
      · rfl
      · have h1 := half_pos l.length
        have h2 := half_lt l.length (by omega)
        simp only []
        split
        · rw [ih g _ _ _ hm (by rw [List.length_take]; omega) (by rw [List.length_take]; omega) (by rw [List.length_take]; omega)]
        · rw [ih g _ _ _ (by omega) (by rw [List.length_drop]; omega) (by rw [List.length_drop]; omega) (by rw [List.length_drop]; omega)]
theorem link_all (l : List ByteArray) (w : Bool) : link l l.length w = if w then [] else [root l] := by
  unfold link
  cases l with
  | nil => rfl
  | cons a r => rw [List.length_cons, linkF, if_pos (by simp)]
theorem link_fst (l : List ByteArray) (m : Nat) (w : Bool) (hm : 1 ≤ m) (h : m < l.length) (hi : m ≤ half l.length) : link l m w = link (l.take (half l.length)) m w ++ [root (l.drop (half l.length))] := by
  have h1 := half_pos l.length
  have h2 := half_lt l.length (by omega)
  unfold link
  obtain ⟨f, hf⟩ : ∃ f, l.length = f + 1 := ⟨l.length - 1, by omega⟩
  conv => lhs; rw [hf, linkF, if_neg (by omega)]
  simp only []
  rw [if_pos hi, linkF_eq f _ _ _ _ hm (by rw [List.length_take]; omega) (by rw [List.length_take]; omega) (Nat.le_refl _)]
theorem link_snd (l : List ByteArray) (m : Nat) (w : Bool) (h : m < l.length) (hi : ¬ m ≤ half l.length) : link l m w = link (l.drop (half l.length)) (m - half l.length) false ++ [root (l.take (half l.length))] := by
  have h1 := half_pos l.length
  have h2 := half_lt l.length (by omega)
  unfold link
  obtain ⟨f, hf⟩ : ∃ f, l.length = f + 1 := ⟨l.length - 1, by omega⟩
  conv => lhs; rw [hf, linkF, if_neg (by omega)]
  simp only []
  rw [if_neg hi, linkF_eq f _ _ _ _ (by omega) (by rw [List.length_drop]; omega) (by rw [List.length_drop]; omega) (Nat.le_refl _)]
end Go.Proofs.YtmmpndijfbbnnaaDoor.Dg
