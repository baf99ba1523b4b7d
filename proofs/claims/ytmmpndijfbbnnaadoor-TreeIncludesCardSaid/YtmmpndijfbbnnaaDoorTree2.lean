/- Paths and links that are handed in, in plain Lean: what Check and Extends compute; the path read from its end (reversed). No program in sight. -/
import Derived.Test.YtmmpndijfbbnnaaDoorTree
namespace Go.Proofs.YtmmpndijfbbnnaaDoor.Dg
def lengthF : Nat → Nat → Nat → Nat
  | 0, _, _ => 0
  | f + 1, n, i => if n ≤ 1 then 0 else if i < half n then 1 + lengthF f (half n) i else 1 + lengthF f (n - half n) (i - half n)
def length (n i : Nat) : Nat := lengthF n n i
def upF : Nat → Nat → Nat → ByteArray → List ByteArray → ByteArray
  | 0, _, _, d, _ => d
  | f + 1, n, i, d, r => if n ≤ 1 then d else if i < half n then nodeB (upF f (half n) i d r.tail) (r.headD ⟨#[]⟩) else nodeB (r.headD ⟨#[]⟩) (upF f (n - half n) (i - half n) d r.tail)
def up (n i : Nat) (d : ByteArray) (r : List ByteArray) : ByteArray := upF n n i d r
theorem lengthF_eq (f g n i : Nat) (hf : n ≤ f) (hg : n ≤ g) : lengthF f n i = lengthF g n i := by
  induction f generalizing g n i with
  | zero =>
    obtain rfl : n = 0 := by omega
    cases g with
    | zero => rfl
    | succ g => rw [lengthF, lengthF, if_pos (by omega)]
  | succ f ih =>
    cases g with
    | zero =>
      obtain rfl : n = 0 := by omega
      rw [lengthF, lengthF, if_pos (by omega)]
    | succ g =>
      rw [lengthF, lengthF]
      split
      · rfl
      · have h1 := half_pos n
        have h2 := half_lt n (by omega)
        split
        · rw [ih g _ _ (by omega) (by omega)]
        · rw [ih g _ _ (by omega) (by omega)]
theorem length_one (n i : Nat) (h : n ≤ 1) : length n i = 0 := by
  unfold length
  cases n with
  | zero => rfl
  | succ n => rw [lengthF, if_pos h]
theorem length_fst (n i : Nat) (h : 2 ≤ n) (hi : i < half n) : length n i = 1 + length (half n) i := by
  have h2 := half_lt n h
  unfold length
  obtain ⟨f, rfl⟩ : ∃ f, n = f + 1 := ⟨n - 1, by omega⟩
  rw [lengthF, if_neg (by omega), if_pos hi, lengthF_eq f _ _ _ (by omega) (Nat.le_refl _)]
theorem length_snd (n i : Nat) (h : 2 ≤ n) (hi : ¬ i < half n) : length n i = 1 + length (n - half n) (i - half n) := by
  have h1 := half_pos n
  unfold length
  obtain ⟨f, rfl⟩ : ∃ f, n = f + 1 := ⟨n - 1, by omega⟩
  rw [lengthF, if_neg (by omega), if_neg hi, lengthF_eq f _ _ _ (by omega) (Nat.le_refl _)]
theorem upF_eq (f g n i : Nat) (d : ByteArray) (r : List ByteArray) (hf : n ≤ f) (hg : n ≤ g) : upF f n i d r = upF g n i d r := by
  induction f generalizing g n i r with
  | zero =>
    obtain rfl : n = 0 := by omega
    cases g with
    | zero => rfl
    | succ g => rw [upF, upF, if_pos (by omega)]
  | succ f ih =>
    cases g with
    | zero =>
      obtain rfl : n = 0 := by omega
      rw [upF, upF, if_pos (by omega)]
    | succ g =>
      rw [upF, upF]
      split
      · rfl
      · have h1 := half_pos n
        have h2 := half_lt n (by omega)
        split
        · rw [ih g _ _ _ (by omega) (by omega)]
        · rw [ih g _ _ _ (by omega) (by omega)]
theorem up_one (n i : Nat) (d : ByteArray) (r : List ByteArray) (h : n ≤ 1) : up n i d r = d := by
  unfold up
  cases n with
  | zero => rfl
  | succ n => rw [upF, if_pos h]
theorem up_fst (n i : Nat) (d : ByteArray) (r : List ByteArray) (h : 2 ≤ n) (hi : i < half n) : up n i d r = nodeB (up (half n) i d r.tail) (r.headD ⟨#[]⟩) := by
  have h2 := half_lt n h
  unfold up
  obtain ⟨f, rfl⟩ : ∃ f, n = f + 1 := ⟨n - 1, by omega⟩
  rw [upF, if_neg (by omega), if_pos hi, upF_eq f _ _ _ _ _ (by omega) (Nat.le_refl _)]
theorem up_snd (n i : Nat) (d : ByteArray) (r : List ByteArray) (h : 2 ≤ n) (hi : ¬ i < half n) : up n i d r = nodeB (r.headD ⟨#[]⟩) (up (n - half n) (i - half n) d r.tail) := by
  have h1 := half_pos n
  unfold up
  obtain ⟨f, rfl⟩ : ∃ f, n = f + 1 := ⟨n - 1, by omega⟩
  rw [upF, if_neg (by omega), if_neg hi, upF_eq f _ _ _ _ _ (by omega) (Nat.le_refl _)]
end Go.Proofs.YtmmpndijfbbnnaaDoor.Dg
