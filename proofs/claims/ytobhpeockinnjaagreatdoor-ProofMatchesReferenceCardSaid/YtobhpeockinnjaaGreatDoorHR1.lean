/- Walks and laws of this seat, several texts in one. No conditions but those that each theorem states. -/
import Derived.KernelRfl
import Derived.WalkKit
import Derived.WalkSpells
import Derived.WalkLawsBesides
import Derived.Deep.QuietTactic
import Derived.BigQuiet
import Derived.Deep.DeepFit
import Derived.Laws.OwnMore
import Derived.Deep.AppendLies
import Derived.Deep.Draws
import Derived.Maps.AppendAt
import Derived.RegionTactic
import Derived.OwnWalk
import Derived.Shelf.Strings.Builder1
import Derived.Test.YtobhpeockinnjaaGreatDoorProg
import Derived.Test.YtobhpeockinnjaaGreatDoorShelf
import Derived.Shelf.Strings.SlTrimAscii
import Derived.Lib.LaidTab
import Derived.OneCell
import Derived.Lib.AppendStr
import Derived.Lib.QuietBelow
import Derived.Laws.Slices
import Derived.StillTailTactics
import Derived.Deep.RegionWith
import Derived.Deep.DeepCutAuto
import Derived.Laws.EntriesVeiled
import Derived.Deep.RegionHeld3
import Derived.IntWalk
/- The digest as a plain function on lists of bytes, with its laws; no program in sight. No conditions. -/
namespace Go.Proofs.YtobhpeockinnjaaGreatDoor
namespace Dg

def M : Nat := 18446744073709551616
def mix (x : Nat) : Nat :=
  let a := x * 6364136223846793005 % M
  let b := a ^^^ (a >>> 31)
  let c := b * 3202034522624059733 % M
  c ^^^ (c >>> 30)
/-- The first 8 bytes of a list as a number, the first one being the most significant; bytes 0 for what is missing. -/
def blkTo (l : List UInt8) : Nat → Nat
  | 0 => 0
  | i + 1 => blkTo l i * 256 + (l.getD i 0).toNat
def blk (l : List UInt8) : Nat := blkTo l 8
def run : Nat → Nat → List UInt8 → Nat
  | 0, s, _ => s
  | k + 1, s, l => run k (mix (s ^^^ blk l)) (l.drop 8)
def state (l : List UInt8) : Nat := run (l.length / 8 + 1) (1442695040888963407 ^^^ l.length) l
def hexDigit (n : Nat) : UInt8 := if n < 10 then UInt8.ofNat (48 + n) else UInt8.ofNat (87 + n)
def hexTo (s : Nat) : Nat → List UInt8
  | 0 => []
  | i + 1 => hexTo s i ++ [hexDigit (s / 16 ^ (15 - i) % 16)]
def hex (s : Nat) : List UInt8 := hexTo s 16
def sum (l : List UInt8) : List UInt8 := hex (state l)
/-- The decimal digits of a number. -/
def decF : Nat → Nat → List UInt8
  | 0, _ => []
  | f + 1, n => if n < 10 then [UInt8.ofNat (48 + n)] else decF f (n / 10) ++ [UInt8.ofNat (48 + n % 10)]
def dec (n : Nat) : List UInt8 := decF 20 n
def joined (l : List (List UInt8)) : List UInt8 := l.flatMap fun s => dec s.length ++ 58 :: s
def list (l : List (List UInt8)) : List UInt8 := sum (joined l)
def chain (l : List UInt8) : Nat → List UInt8
  | 0 => l
  | n + 1 => sum (chain l n)
def isDig (c : UInt8) : Bool := (48 ≤ c && c ≤ 57) || (97 ≤ c && c ≤ 102)
def is (l : List UInt8) : Bool := l.length == 16 && l.all isDig

theorem M_eq : M = 2 ^ 64 := rfl
theorem M_pos : 0 < M := by unfold M; omega
theorem xor_lt {a b : Nat} (ha : a < M) (hb : b < M) : a ^^^ b < M := by rw [M_eq] at *; exact Nat.xor_lt_two_pow ha hb
theorem shr_lt {a k : Nat} (ha : a < M) : a >>> k < M := Nat.lt_of_le_of_lt (Nat.shiftRight_le a k) ha
theorem mix_lt (x : Nat) : mix x < M := xor_lt (Nat.mod_lt _ M_pos) (shr_lt (Nat.mod_lt _ M_pos))

theorem blkTo_lt (l : List UInt8) (i : Nat) : blkTo l i < 256 ^ i := by
  induction i with
  | zero => simp [blkTo]
  | succ i ih =>
    have := (l.getD i 0).toNat_lt
    rw [blkTo, Nat.pow_succ]
    omega
theorem blk_lt (l : List UInt8) : blk l < M := blkTo_lt l 8
theorem hexDigit_lo (k : Nat) (h : k < 10) : ((hexDigit k).toNat : Int) = 48 + k := by
  unfold hexDigit
  rw [if_pos h, UInt8.toNat_ofNat']
  omega
theorem hexDigit_hi (k : Nat) (h : ¬ k < 10) (h' : k < 16) : ((hexDigit k).toNat : Int) = 97 + k - 10 := by
  unfold hexDigit
  rw [if_neg h, UInt8.toNat_ofNat']
  omega
def B (l : List UInt8) : ByteArray := ⟨l.toArray⟩
def L (s : ByteArray) : List UInt8 := s.data.toList
def sumB (s : ByteArray) : ByteArray := B (sum (L s))
theorem blkTo_take (l : List UInt8) (n i : Nat) (h : i ≤ n) : blkTo (l.take n) i = blkTo l i := by
  induction i with
  | zero => rfl
  | succ i ih =>
    rw [blkTo, blkTo, ih (by omega), List.getD_eq_getElem?_getD, List.getD_eq_getElem?_getD, List.getElem?_take, if_pos (by omega)]
theorem blk_take (l : List UInt8) : blk (l.take 8) = blk l := blkTo_take l 8 8 (Nat.le_refl _)
theorem len_L (s : ByteArray) : (L s).length = s.size := Array.length_toList
theorem L_B (l : List UInt8) : L (B l) = l := rfl
theorem B_L (s : ByteArray) : B (L s) = s := by unfold B L; rfl
theorem L_inj {a b : ByteArray} (h : L a = L b) : a = b := by rw [← B_L a, ← B_L b, h]
theorem L_extract (s : ByteArray) (i j : Nat) : L (s.extract i j) = ((L s).take j).drop i := by
  unfold L
  rw [ByteArray.data_extract, Array.toList_extract, List.extract_eq_take_drop, List.drop_take]
theorem size_B (l : List UInt8) : (B l).size = l.length := by rw [← len_L, L_B]
theorem hexTo_len (s i : Nat) : (hexTo s i).length = i := by
  induction i with
  | zero => rfl
  | succ i ih => rw [hexTo, List.length_append, ih]; rfl
theorem sum_len (l : List UInt8) : (sum l).length = 16 := hexTo_len _ 16
theorem sumB_size (s : ByteArray) : (sumB s).size = 16 := by rw [sumB, size_B, sum_len]
theorem run_step (s : Nat) (l : List UInt8) (h : 8 ≤ l.length) : run (l.length / 8 + 1) s l = run ((l.drop 8).length / 8 + 1) (mix (s ^^^ blk l)) (l.drop 8) := by
  rw [List.length_drop, show l.length / 8 = (l.length - 8) / 8 + 1 by omega]
  rfl
theorem run_lt (k s : Nat) (l : List UInt8) (hs : s < M) : run k s l < M := by
  induction k generalizing s l with
  | zero => exact hs
  | succ k ih => exact ih _ _ (mix_lt _)
theorem state_lt (l : List UInt8) : state l < M := by unfold state run; exact run_lt _ _ _ (mix_lt _)
theorem hexTo_get (s n j : Nat) (hj : j < n) : (hexTo s n)[j]? = some (hexDigit (s / 16 ^ (15 - j) % 16)) := by
  induction n with
  | zero => omega
  | succ n ih =>
    rw [hexTo]
    by_cases h : j < n
    · rw [List.getElem?_append_left (by rw [hexTo_len]; exact h)]
      exact ih h
    · obtain rfl : j = n := by omega
      rw [List.getElem?_append_right (by rw [hexTo_len]; omega), hexTo_len, Nat.sub_self]
      rfl
def joinedL (l : List ByteArray) : List UInt8 := joined (l.map L)
def listB (l : List ByteArray) : ByteArray := B (list (l.map L))
def chainB (s : ByteArray) (n : Nat) : ByteArray := B (chain (L s) n)
def isB (s : ByteArray) : Bool := is (L s)
theorem joined_append (a b : List (List UInt8)) : joined (a ++ b) = joined a ++ joined b := by unfold joined; rw [List.flatMap_append]
theorem joinedL_take (l : List ByteArray) (k : Nat) (h : k < l.length) : joinedL (l.take (k + 1)) = joinedL (l.take k) ++ (dec (L l[k]).length ++ 58 :: L l[k]) := by
  unfold joinedL
  rw [List.take_succ_eq_append_getElem h, List.map_append, joined_append]
  simp [joined]
theorem chain_succ (l : List UInt8) (n : Nat) : chain l (n + 1) = sum (chain l n) := rfl
theorem chainB_zero (s : ByteArray) : chainB s 0 = s := B_L s
theorem chainB_succ (s : ByteArray) (n : Nat) : chainB s (n + 1) = sumB (chainB s n) := rfl
theorem decF_len (f n : Nat) : (decF f n).length ≤ f := by
  induction f generalizing n with
  | zero => simp [decF]
  | succ f ih =>
    rw [decF]
    split
    · simp
    · rw [List.length_append]
      have := ih (n / 10)
      simp only [List.length_cons, List.length_nil]
      omega
theorem dec_len (n : Nat) : (dec n).length ≤ 20 := decF_len 20 n
theorem joined_len_le (l : List (List UInt8)) (m : Nat) (h : ∀ s ∈ l, s.length ≤ m) : (joined l).length ≤ l.length * (m + 21) := by
  induction l with
  | nil => simp [joined]
  | cons a r ih =>
    have e : joined (a :: r) = (dec a.length ++ 58 :: a) ++ joined r := by simp [joined]
    have h1 := ih fun s hs => h s (List.mem_cons_of_mem _ hs)
    have h2 := h a (List.mem_cons_self ..)
    have h3 := dec_len a.length
    rw [e, List.length_append, List.length_append, List.length_cons, List.length_cons, Nat.succ_mul]
    omega
theorem joinedL_len_le (l : List ByteArray) (m : Nat) (h : ∀ s ∈ l, s.size ≤ m) : (joinedL l).length ≤ l.length * (m + 21) := by
  have := joined_len_le (l.map L) m (fun s hs => by
    obtain ⟨a, ha, rfl⟩ := List.mem_map.1 hs
    rw [len_L]; exact h a ha)
  rwa [List.length_map] at this
theorem chainB_le (s : ByteArray) (k : Nat) : (chainB s k).size ≤ s.size + 16 := by
  cases k with
  | zero => rw [chainB_zero]; omega
  | succ k => rw [chainB_succ, sumB_size]; omega
def hexes : List UInt8 := [48, 49, 50, 51, 52, 53, 54, 55, 56, 57, 97, 98, 99, 100, 101, 102]
/-- The value of a hexadecimal digit; -1 if it is none. -/
def digit (c : UInt8) : Int := if 48 ≤ c.toNat ∧ c.toNat ≤ 57 then (c.toNat : Int) - 48 else if 97 ≤ c.toNat ∧ c.toNat ≤ 102 then (c.toNat : Int) - 87 else -1
/-- At most 30 texts of at most n bytes. -/
def few (l : List ByteArray) (n : Int) : Bool := decide (l.length ≤ 30 ∧ ∀ s ∈ l, (s.size : Int) ≤ n)
def same (a b : List ByteArray) : Bool := decide (a = b)
theorem same_iff (a b : List ByteArray) : same a b = true ↔ a = b := by unfold same; exact decide_eq_true_iff
theorem same_no (a b : List ByteArray) (h : a ≠ b) : same a b = false := by unfold same; exact decide_eq_false h
end Dg
end Go.Proofs.YtobhpeockinnjaaGreatDoor
/- The digest's laws as plain mathematics: form, one block, short texts, chains, joined texts. -/
namespace Go.Proofs.YtobhpeockinnjaaGreatDoor
namespace Dg
theorem isDig_hexDigit (d : Nat) (h : d < 16) : isDig (hexDigit d) = true := by
  have : ∀ d, d < 16 → isDig (hexDigit d) = true := by decide +kernel
  exact this d h
theorem hexTo_all (s n : Nat) : (hexTo s n).all isDig = true := by
  induction n with
  | zero => rfl
  | succ n ih => rw [hexTo, List.all_append, ih]; simp [isDig_hexDigit _ (Nat.mod_lt _ (by omega : 16 > 0))]
theorem is_sum (l : List UInt8) : is (sum l) = true := by
  have h : (sum l).all isDig = true := hexTo_all _ _
  rw [is, h, sum_len]; rfl
theorem isB_sumB (s : ByteArray) : isB (sumB s) = true := is_sum _
theorem isB_listB (l : List ByteArray) : isB (listB l) = true := is_sum _
theorem chain_add (l : List UInt8) (a b : Nat) : chain (chain l a) b = chain l (a + b) := by
  induction b with
  | zero => rfl
  | succ b ih => rw [← Nat.add_assoc, chain_succ, chain_succ, ih]
theorem chainB_add (s : ByteArray) (a b : Nat) : chainB (chainB s a) b = chainB s (a + b) := by
  unfold chainB
  rw [L_B, chain_add]
end Dg
end Go.Proofs.YtobhpeockinnjaaGreatDoor
/- Trees of lists in plain Lean: what package tree computes. No program in sight. No conditions. -/
namespace Go.Proofs.YtobhpeockinnjaaGreatDoor.Dg
def halfF : Nat → Nat → Nat → Nat
  | 0, k, _ => k
  | f + 1, k, n => if 2 * k < n then halfF f (2 * k) n else k
def half (n : Nat) : Nat := halfF n 1 n
theorem halfF_ge (f k n : Nat) : k ≤ halfF f k n := by
  induction f generalizing k with
  | zero => exact Nat.le_refl _
  | succ f ih =>
    rw [halfF]
    split
    · exact Nat.le_trans (by omega) (ih (2 * k))
    · exact Nat.le_refl _
theorem halfF_lt (f k n : Nat) (h : k < n) : halfF f k n < n := by
  induction f generalizing k with
  | zero => exact h
  | succ f ih =>
    rw [halfF]
    split
    · rename_i h2; exact ih _ h2
    · exact h
theorem halfF_half (f k n : Nat) (h1 : 1 ≤ k) (h : n ≤ k + f) : n ≤ 2 * halfF f k n := by
  induction f generalizing k with
  | zero => rw [halfF]; omega
  | succ f ih =>
    rw [halfF]
    split
    · exact ih _ (by omega) (by omega)
    · omega
theorem half_pos (n : Nat) : 1 ≤ half n := halfF_ge _ _ _
theorem half_lt (n : Nat) (h : 2 ≤ n) : half n < n := halfF_lt _ _ _ h
theorem half_two (n : Nat) : n ≤ 2 * half n := halfF_half _ _ _ (Nat.le_refl _) (by omega)
def sEmpty : ByteArray := ⟨#[101, 109, 112, 116, 121]⟩
def sLeaf : ByteArray := ⟨#[108, 101, 97, 102]⟩
def sNode : ByteArray := ⟨#[110, 111, 100, 101]⟩
def emptyB : ByteArray := listB [sEmpty]
def leafB (s : ByteArray) : ByteArray := listB [sLeaf, s]
def nodeB (a b : ByteArray) : ByteArray := listB [sNode, a, b]
theorem nodeB_congr {a b c d : ByteArray} (h : a = c) (h' : b = d) : nodeB a b = nodeB c d := by rw [h, h']
def rootF : Nat → List ByteArray → ByteArray
  | 0, _ => emptyB
  | _ + 1, [] => emptyB
  | _ + 1, [s] => leafB s
  | f + 1, s :: t :: r => nodeB (rootF f ((s :: t :: r).take (half (r.length + 2)))) (rootF f ((s :: t :: r).drop (half (r.length + 2))))
def root (l : List ByteArray) : ByteArray := rootF l.length l
theorem rootF_eq (f g : Nat) (l : List ByteArray) (hf : l.length ≤ f) (hg : l.length ≤ g) : rootF f l = rootF g l := by
  induction f generalizing g l with
  | zero =>
    obtain rfl : l = [] := by cases l with | nil => rfl | cons a r => simp at hf
    cases g <;> rfl
  | succ f ih =>
    match l, hf, hg with
    | [], _, _ => cases g <;> rfl
    | [s], _, hg =>
      cases g with
      | zero => simp at hg
      | succ g => rfl
    | s :: t :: r, hf, hg =>
      cases g with
      | zero => simp at hg
      | succ g =>
        have h1 := half_pos (r.length + 2)
        have h2 := half_lt (r.length + 2) (by omega)
        simp only [List.length_cons] at hf hg
        rw [rootF, rootF]
        refine nodeB_congr (ih _ _ ?_ ?_) (ih _ _ ?_ ?_) <;> simp only [List.length_take, List.length_drop, List.length_cons] <;> omega
theorem root_nil : root [] = emptyB := rfl
theorem root_one (s : ByteArray) : root [s] = leafB s := rfl
theorem root_more (l : List ByteArray) (h : 2 ≤ l.length) : root l = nodeB (root (l.take (half l.length))) (root (l.drop (half l.length))) := by
  match l, h with
  | s :: t :: r, h =>
    have h1 := half_pos (r.length + 2)
    have h2 := half_lt (r.length + 2) (by omega)
    show rootF ((s :: t :: r).length) _ = _
    show rootF ((r.length + 1) + 1) _ = _
    rw [rootF]
    refine nodeB_congr (rootF_eq _ _ _ ?_ (Nat.le_refl _)) (rootF_eq _ _ _ ?_ (Nat.le_refl _)) <;> simp only [List.length_take, List.length_drop, List.length_cons] <;> omega
/-- The path of an element: first the lowest. -/
def pathF : Nat → List ByteArray → Nat → List ByteArray
  | 0, _, _ => []
  | f + 1, l, i => if l.length ≤ 1 then [] else
      let k := half l.length
      if i < k then pathF f (l.take k) i ++ [root (l.drop k)] else pathF f (l.drop k) (i - k) ++ [root (l.take k)]
def path (l : List ByteArray) (i : Nat) : List ByteArray := pathF l.length l i
theorem pathF_eq (f g : Nat) (l : List ByteArray) (i : Nat) (hf : l.length ≤ f) (hg : l.length ≤ g) : pathF f l i = pathF g l i := by
  induction f generalizing g l i with
  | zero =>
    obtain rfl : l = [] := by cases l with | nil => rfl | cons a r => simp at hf
    cases g <;> rfl
  | succ f ih =>
    cases g with
    | zero =>
      obtain rfl : l = [] := by cases l with | nil => rfl | cons a r => simp at hg
      rfl
    | succ g =>
      rw [pathF, pathF]
      split
      · rfl
      · have h1 := half_pos l.length
        have h2 := half_lt l.length (by omega)
        simp only []
        split
        · rw [ih g _ _ (by rw [List.length_take]; omega) (by rw [List.length_take]; omega)]
        · rw [ih g _ _ (by rw [List.length_drop]; omega) (by rw [List.length_drop]; omega)]
theorem path_short (l : List ByteArray) (i : Nat) (h : l.length ≤ 1) : path l i = [] := by
  unfold path
  cases l with
  | nil => rfl
  | cons a r => rw [List.length_cons, pathF, if_pos (by simpa using h)]
theorem path_fst (l : List ByteArray) (i : Nat) (h : 2 ≤ l.length) (hi : i < half l.length) : path l i = path (l.take (half l.length)) i ++ [root (l.drop (half l.length))] := by
  have h1 := half_pos l.length
  have h2 := half_lt l.length h
  unfold path
  obtain ⟨f, hf⟩ : ∃ f, l.length = f + 1 := ⟨l.length - 1, by omega⟩
  conv => lhs; rw [hf, pathF, if_neg (by omega)]
  simp only []
  rw [if_pos hi, pathF_eq f _ _ _ (by rw [List.length_take]; omega) (Nat.le_refl _)]
theorem path_snd (l : List ByteArray) (i : Nat) (h : 2 ≤ l.length) (hi : ¬ i < half l.length) : path l i = path (l.drop (half l.length)) (i - half l.length) ++ [root (l.take (half l.length))] := by
  have h1 := half_pos l.length
  have h2 := half_lt l.length h
  unfold path
  obtain ⟨f, hf⟩ : ∃ f, l.length = f + 1 := ⟨l.length - 1, by omega⟩
  conv => lhs; rw [hf, pathF, if_neg (by omega)]
  simp only []
  rw [if_neg hi, pathF_eq f _ _ _ (by rw [List.length_drop]; omega) (Nat.le_refl _)]
/-- The link of m in a list. -/
def linkF : Nat → List ByteArray → Nat → Bool → List ByteArray
  | 0, l, _, whole => if whole then [] else [root l]
  | f + 1, l, m, whole => if m = l.length then (if whole then [] else [root l]) else
      let k := half l.length
      if m ≤ k then linkF f (l.take k) m whole ++ [root (l.drop k)] else linkF f (l.drop k) (m - k) false ++ [root (l.take k)]
def link (l : List ByteArray) (m : Nat) (whole : Bool) : List ByteArray := linkF l.length l m whole
end Go.Proofs.YtobhpeockinnjaaGreatDoor.Dg
/- Paths and links that are handed in, in plain Lean: what Check and Extends compute; the path read from its end (reversed). No program in sight. -/
namespace Go.Proofs.YtobhpeockinnjaaGreatDoor.Dg
def lengthF : Nat → Nat → Nat → Nat
  | 0, _, _ => 0
  | f + 1, n, i => if n ≤ 1 then 0 else if i < half n then 1 + lengthF f (half n) i else 1 + lengthF f (n - half n) (i - half n)
def length (n i : Nat) : Nat := lengthF n n i
def upF : Nat → Nat → Nat → ByteArray → List ByteArray → ByteArray
  | 0, _, _, d, _ => d
  | f + 1, n, i, d, r => if n ≤ 1 then d else if i < half n then nodeB (upF f (half n) i d r.tail) (r.headD ⟨#[]⟩) else nodeB (r.headD ⟨#[]⟩) (upF f (n - half n) (i - half n) d r.tail)
def up (n i : Nat) (d : ByteArray) (r : List ByteArray) : ByteArray := upF n n i d r
theorem lengthF_eq (f g n i : Nat) (hf : n ≤ f) (hg : n ≤ g) : lengthF f n i = lengthF g n i := by
  induction f generalizing g n i with
  | zero =>
    obtain rfl : n = 0 := by omega
    cases g with
    | zero => rfl
    | succ g => rw [lengthF, lengthF, if_pos (by omega)]
  | succ f ih =>
    cases g with
    | zero =>
      obtain rfl : n = 0 := by omega
      rw [lengthF, lengthF, if_pos (by omega)]
    | succ g =>
      rw [lengthF, lengthF]
      split
      · rfl
      · have h1 := half_pos n
        have h2 := half_lt n (by omega)
        split
        · rw [ih g _ _ (by omega) (by omega)]
        · rw [ih g _ _ (by omega) (by omega)]
theorem length_one (n i : Nat) (h : n ≤ 1) : length n i = 0 := by
  unfold length
  cases n with
  | zero => rfl
  | succ n => rw [lengthF, if_pos h]
theorem length_fst (n i : Nat) (h : 2 ≤ n) (hi : i < half n) : length n i = 1 + length (half n) i := by
  have h2 := half_lt n h
  unfold length
  obtain ⟨f, rfl⟩ : ∃ f, n = f + 1 := ⟨n - 1, by omega⟩
  rw [lengthF, if_neg (by omega), if_pos hi, lengthF_eq f _ _ _ (by omega) (Nat.le_refl _)]
theorem length_snd (n i : Nat) (h : 2 ≤ n) (hi : ¬ i < half n) : length n i = 1 + length (n - half n) (i - half n) := by
  have h1 := half_pos n
  unfold length
  obtain ⟨f, rfl⟩ : ∃ f, n = f + 1 := ⟨n - 1, by omega⟩
  rw [lengthF, if_neg (by omega), if_neg hi, lengthF_eq f _ _ _ (by omega) (Nat.le_refl _)]
theorem upF_eq (f g n i : Nat) (d : ByteArray) (r : List ByteArray) (hf : n ≤ f) (hg : n ≤ g) : upF f n i d r = upF g n i d r := by
  induction f generalizing g n i r with
  | zero =>
    obtain rfl : n = 0 := by omega
    cases g with
    | zero => rfl
    | succ g => rw [upF, upF, if_pos (by omega)]
  | succ f ih =>
    cases g with
    | zero =>
      obtain rfl : n = 0 := by omega
      rw [upF, upF, if_pos (by omega)]
    | succ g =>
      rw [upF, upF]
      split
      · rfl
      · have h1 := half_pos n
        have h2 := half_lt n (by omega)
        split
        · rw [ih g _ _ _ (by omega) (by omega)]
        · rw [ih g _ _ _ (by omega) (by omega)]
theorem up_one (n i : Nat) (d : ByteArray) (r : List ByteArray) (h : n ≤ 1) : up n i d r = d := by
  unfold up
  cases n with
  | zero => rfl
  | succ n => rw [upF, if_pos h]
theorem up_fst (n i : Nat) (d : ByteArray) (r : List ByteArray) (h : 2 ≤ n) (hi : i < half n) : up n i d r = nodeB (up (half n) i d r.tail) (r.headD ⟨#[]⟩) := by
  have h2 := half_lt n h
  unfold up
  obtain ⟨f, rfl⟩ : ∃ f, n = f + 1 := ⟨n - 1, by omega⟩
  rw [upF, if_neg (by omega), if_pos hi, upF_eq f _ _ _ _ _ (by omega) (Nat.le_refl _)]
theorem up_snd (n i : Nat) (d : ByteArray) (r : List ByteArray) (h : 2 ≤ n) (hi : ¬ i < half n) : up n i d r = nodeB (r.headD ⟨#[]⟩) (up (n - half n) (i - half n) d r.tail) := by
  have h1 := half_pos n
  unfold up
  obtain ⟨f, rfl⟩ : ∃ f, n = f + 1 := ⟨n - 1, by omega⟩
  rw [upF, if_neg (by omega), if_neg hi, upF_eq f _ _ _ _ _ (by omega) (Nat.le_refl _)]
end Go.Proofs.YtobhpeockinnjaaGreatDoor.Dg
/- Small lemmas for the walks of this seat. No conditions. -/
namespace Go.Proofs.YtobhpeockinnjaaGreatDoor
open Go Go.RowKit
theorem hide {p : Prop} (h : p) : Hid p := h
theorem ret_int {k : IntKind} {a b : Int} (h : a = b) : Ending.returned (.int k a) = .returned (.int k b) := by rw [h]
theorem ret_str {a b : ByteArray} (h : a = b) : Ending.returned (.string a) = .returned (.string b) := by rw [h]
theorem ret_bool {a b : Bool} (h : a = b) : Ending.returned (.bool a) = .returned (.bool b) := by rw [h]
end Go.Proofs.YtobhpeockinnjaaGreatDoor
/- The library's strings.Builder at this program: the shelf's contracts laid by hand. No conditions. -/
namespace Go.Proofs
open Go.Shelf Go.RowKit
def Tryz.renWS : Go.Shelf.Ren := ⟨fun | 166 => 95 | 240 => 126 | 276 => 158 | n => n, fun | 0 => 0 | 3 => 3 | 4 => 4 | 5 => 5 | 9 => 9 | 20 => 20 | 37 => 125 | 70 => 128 | 72 => 130 | 75 => 132 | 80 => 124 | 164 => 183 | 127 => 133 | n => n, fun | n => n⟩
theorem Tryz.layWS : Go.Proofs.Lays.n166 Tryz.prog Tryz.renWS := {
  mixed := by kernel_rfl
  f166 := Tryz.func95.trans (congrArg some (by kernel_rfl))
  f240 := Tryz.func126.trans (congrArg some (by kernel_rfl))
  f276 := Tryz.func158.trans (congrArg some (by kernel_rfl))
  t0 := Tryz.underlying0
  a0 := Tryz.isAgg0
  z0 := Tryz.sizeOf0
  v0 := Tryz.zeroValue0
  t3 := Tryz.underlying3
  a3 := Tryz.isAgg3
  z3 := Tryz.sizeOf3
  v3 := Tryz.zeroValue3
  t4 := Tryz.underlying4
  a4 := Tryz.isAgg4
  z4 := Tryz.sizeOf4
  v4 := Tryz.zeroValue4
  t9 := Tryz.underlying9
  a9 := Tryz.isAgg9
  z9 := Tryz.sizeOf9
  v9 := Tryz.zeroValue9
  t20 := Tryz.underlying20
  a20 := Tryz.isAgg20
  z20 := Tryz.sizeOf20
  v20 := Tryz.zeroValue20
  t37 := Tryz.underlying125
  a37 := Tryz.isAgg125
  z37 := Tryz.sizeOf125
  v37 := Tryz.zeroValue125
  t70 := Tryz.underlying128
  a70 := Tryz.isAgg128
  z70 := Tryz.sizeOf128
  v70 := Tryz.zeroValue128
  t72 := Tryz.underlying130
  a72 := Tryz.isAgg130
  z72 := Tryz.sizeOf130
  v72 := Tryz.zeroValue130
  t75 := Tryz.underlying132
  a75 := Tryz.isAgg132
  z75 := Tryz.sizeOf132
  v75 := Tryz.zeroValue132
  t164 := Tryz.underlying183
  a164 := Tryz.isAgg183
  z164 := Tryz.sizeOf183
  v164 := Tryz.zeroValue183 }
theorem Tryz.extraWS : Builder.Extra Tryz.prog Tryz.renWS := {
  sizeBuilder := by kernel_rfl
  liesBuilder := by kernel_rfl
  t5 := Tryz.underlying5
  a5 := Tryz.isAgg5
  z5 := Tryz.sizeOf5
  v5 := Tryz.zeroValue5
  infoByte := by kernel_rfl
  cellsByte := by kernel_rfl
  sizeByte := by kernel_rfl
  neB5 := by decide }
theorem Tryz.Builder_WriteString (B b : Nat) (bs : List Value) (s : ByteArray) (w : World) (h : Lib.IsBuilder 130 5 B b bs w) (hlen : bs.length + s.size ≤ 140737488355328) (hBw : B ≤ w.heap.size) :
    Calls Tryz.prog 95 #[.pointer (some ⟨b, 0, none⟩), .string s] w fun e w' => e = .returned (.tuple #[.int .i64 s.size, .nilIface]) ∧ (Lib.BuilderAt 130 5 B b (.pointer (some ⟨b, 0, none⟩)) (bs ++ Lib.strCells s) w' ∧ Below B w w') :=
  Any.Builder_WriteString Tryz.layWS Tryz.extraWS B b bs s w h hlen hBw
end Go.Proofs
/- What the walks ask of the world: the library's table of powers of ten as its initialiser lays it; a slice of strings that reads as a list. No conditions. -/
namespace Go.Proofs.YtobhpeockinnjaaGreatDoor
open Go Go.RowKit Go.Sort
/-- The table is laid. -/
def Env (w : World) : Prop := Lib.TabIs Tryz.prog w "internal/strconv.uint64pow10" .u64 Lib.pow10Tab
theorem gPow : Tryz.prog.globalNamed "internal/strconv.uint64pow10" = some 0 := by kernel_rfl
theorem Env.lt {w : World} (h : Env w) : 0 < w.heap.size := by
  have := Lib.TabIs.cell h gPow 0 (by decide)
  exact World.block_lt_of_cell? _ _ this
theorem Env.below {w w' : World} {B : Nat} (h : Env w) (hb : Below B w w') (hB : 0 < B) : Env w' := var?_below hb gPow hB h
theorem Env.next {w w' : World} (h : Env w) (hb : Below w.heap.size w w') : Env w' := h.below hb h.lt
theorem below_grown (w : World) (k : Nat) (os : Array Obj) : Below w.heap.size w (grow (w.drewN k) os) :=
  ⟨rfl, rfl, rfl, by show w.heap.size ≤ (w.heap ++ os).size; simp, fun i hi => by
    show (w.heap ++ os)[i]? = w.heap[i]?
    rw [Array.getElem?_append_left hi]⟩
/-- The decimal digits as the library's word has them. -/
def decB (n : Nat) : ByteArray := Dg.B (Lib.decDigits n)
theorem itoa_any (k : Int) (n : Nat) (hk : k = n) (hn : n ≤ 9223372036854775807) (w : World) (he : Env w) :
    Calls Tryz.prog 53 #[.int .i64 k] w fun e w' => e = .returned (.string (decB n)) ∧ Below w.heap.size w w' := by
  subst hk
  refine (Tryz.strconv_Itoa n (by omega) (by omega) w he).mono ?_
  rintro e w' ⟨rfl, j, os, rfl⟩
  refine ⟨ret_str ?_, below_grown _ _ _⟩
  unfold Lib.itoa decB Dg.B
  rw [if_neg (by omega), Int.toNat_natCast]
/-- A slice of strings: its address, and the list that it reads as; below block B. -/
structure Strs (w : World) (B : Nat) (A : Option Addr) (l : List ByteArray) : Prop where
  at_ : 0 < l.length → ∃ b off, A = some ⟨b, off, none⟩ ∧ b < B ∧ ∀ (j : Nat) (s : ByteArray), l[j]? = some s → w.cell? ⟨b, off + j, none⟩ = some (.string s)
theorem Strs.nil (w : World) (B : Nat) (A : Option Addr) : Strs w B A [] := ⟨fun h => by simp at h⟩
theorem Strs.keep {w w' : World} {B : Nat} {A : Option Addr} {l : List ByteArray} (h : Strs w B A l) (hk : ∀ p : Addr, p.block < B → w'.cell? p = w.cell? p) : Strs w' B A l :=
  ⟨fun hl => by
    obtain ⟨b, off, e, hb, hc⟩ := h.at_ hl
    exact ⟨b, off, e, hb, fun j s hj => (hk _ hb).trans (hc j s hj)⟩⟩
theorem Strs.below {w w' : World} {B : Nat} {A : Option Addr} {l : List ByteArray} (h : Strs w B A l) (hb : Below B w w') : Strs w' B A l := h.keep fun _ hp => hb.cell hp
theorem Strs.more {w : World} {B B' : Nat} {A : Option Addr} {l : List ByteArray} (h : Strs w B A l) (hB : B ≤ B') : Strs w B' A l :=
  ⟨fun hl => by
    obtain ⟨b, off, e, hb, hc⟩ := h.at_ hl
    exact ⟨b, off, e, by omega, hc⟩⟩
theorem Strs.get {w : World} {B : Nat} {A : Option Addr} {l : List ByteArray} (h : Strs w B A l) {k : Nat} (hk : k < l.length) : ∃ b off, A = some ⟨b, off, none⟩ ∧ b < B ∧ w.cell? ⟨b, off + k, none⟩ = some (.string l[k]) := by
  obtain ⟨b, off, e, hb, hc⟩ := h.at_ (by omega)
  exact ⟨b, off, e, hb, hc k _ (List.getElem?_eq_getElem hk)⟩
theorem decF_eq (f n : Nat) (h : n < 10 ^ f) (hf : 0 < f) : Dg.decF f n = Lib.decDigits n := by
  induction f generalizing n with
  | zero =>
    omega
  | succ f ih =>
    rw [Dg.decF, Lib.decDigits]
    by_cases h1 : n < 10
    · rw [if_pos h1, dif_pos h1]
    · have h2 : 0 < f := by
        rcases Nat.eq_zero_or_pos f with h0 | h0
        · subst h0; simp at h; omega
        · exact h0
      rw [if_neg h1, dif_neg h1, ih _ (by rw [Nat.pow_succ] at h; omega) h2]
theorem dec_eq (n : Nat) (h : n ≤ 9223372036854775807) : Dg.dec n = Lib.decDigits n := decF_eq 20 n (by omega) (by omega)
theorem L_decB (n : Nat) (h : n ≤ 9223372036854775807) : Dg.L (decB n) = Dg.dec n := (dec_eq n h).symm
theorem decB_size (n : Nat) (h : n ≤ 9223372036854775807) : (decB n).size ≤ 20 := by
  rw [← Dg.len_L, L_decB n h]; exact Dg.dec_len n
theorem own_below {w w' : World} {base : Nat} {e : TypeId} {size : Nat} {v : Value} {n : Nat} {xs : List Value} (h : w.ownsRow base e size v n xs) (hb : Below w.heap.size w w') : w'.ownsRow base e size v n xs := by
  obtain ⟨h1, h2⟩ := h
  refine ⟨h1, ?_⟩
  rcases h2 with h2 | ⟨g, cap, cur, hv, hg, hh, r⟩
  · exact Or.inl h2
  · exact Or.inr ⟨g, cap, cur, hv, hg, by rw [hb.block g (lt_of_block hh)]; exact hh, r⟩
theorem builder_below {T e : TypeId} {B b : Nat} {bs : List Value} {w w' : World} (h : Lib.IsBuilder T e B b bs w) (hb : Below w.heap.size w w') : Lib.IsBuilder T e B b bs w' := by
  rcases h with ⟨h1, v, h2, h3, h4⟩ | ⟨h1, v, h2, h3, h4⟩
  · exact Or.inl ⟨h1, v, by rw [hb.block b (lt_of_block h2)]; exact h2, own_below h3 hb, h4⟩
  · exact Or.inr ⟨h1, v, by rw [hb.block b (lt_of_block h2)]; exact h2, own_below h3 hb, h4⟩
theorem builder_new (T e : TypeId) (w : World) : Lib.IsBuilder T e w.heap.size w.heap.size [] (w.alloc (.cells #[.pointer none, .slice none 0 0] T)) :=
  Or.inl ⟨Nat.le_refl _, .slice none 0 0, heap_alloc_new w _, ⟨rfl, .inl ⟨rfl, rfl⟩⟩, by simp [Value.ownBlock]⟩
end Go.Proofs.YtobhpeockinnjaaGreatDoor
namespace Go.Proofs.YtobhpeockinnjaaGreatDoor
open Go Go.RowKit
theorem len_toList (s : ByteArray) : s.data.toList.length = s.size := Array.length_toList
/-- Eight bytes: those of a string, then zeros. -/
def pad8 (s : ByteArray) : Array Value := ((List.range 8).map fun i => Value.int .u8 ((s.data.toList.getD i 0).toNat : Int)).toArray
theorem pad8_get (s : ByteArray) (i : Nat) (h : i < 8) : (pad8 s)[i]? = some (.int .u8 ((s.data.toList.getD i 0).toNat : Int)) := by
  simp only [pad8, List.getElem?_toArray, List.getElem?_map, List.getElem?_range h, Option.map_some]
theorem pad8_eq (s : ByteArray) (h : s.size ≤ 8) (z : List Value) (hz : z = List.replicate 8 (.int .u8 0)) :
    (s.data.toList.map (fun b => Value.int .u8 (b.toNat : Int)) ++ z.drop s.size).toArray = pad8 s := by
  unfold pad8
  congr 1
  have hl := len_toList s
  apply List.ext_getElem?
  intro i
  rw [List.getElem?_append, List.length_map, hl, List.getElem?_map, List.getElem?_map]
  by_cases h1 : i < s.size
  · rw [if_pos h1, List.getElem?_range (by omega), List.getElem?_eq_getElem (by omega)]
    simp only [Option.map_some]
    rw [List.getD_eq_getElem?_getD, List.getElem?_eq_getElem (by omega)]
    rfl
  · rw [if_neg h1, List.getElem?_drop, show s.size + (i - s.size) = i by omega, hz]
    by_cases h2 : i < 8
    · rw [List.getElem?_replicate, if_pos h2, List.getElem?_range h2]
      simp only [Option.map_some]
      rw [List.getD_eq_getElem?_getD, List.getElem?_eq_none (by omega)]
      rfl
    · rw [List.getElem?_replicate, if_neg h2, List.getElem?_eq_none (by rw [List.length_range]; omega)]
      rfl
theorem setRow_new (w : World) (A C : Array Value) (T : TypeId) : (w.alloc (.cells A T)).setRow w.heap.size C = w.alloc (.cells C T) := by
  unfold World.setRow World.alloc
  congr 1
  apply Array.ext
  · simp
  · intro k h1 h2
    simp only [Array.getElem_modify, Array.getElem_push]
    by_cases hk : w.heap.size = k
    · subst hk; simp
    · have hlt : k < w.heap.size := by simp at h1; omega
      simp [hk, hlt]
def zero8 : Array Value := #[.int .u8 0, .int .u8 0, .int .u8 0, .int .u8 0, .int .u8 0, .int .u8 0, .int .u8 0, .int .u8 0]
theorem run_copy8 {P : Program} (dT sT ty elem T : TypeId) (s : ByteArray) (h : s.size ≤ 8) (hu : P.underlying dT = some (.slice elem)) (hs : ((P.info? elem).map (·.size)) = some 1) (w : World) :
    (Builtin.copy_ #[dT, sT] ty #[.slice (some ⟨w.heap.size, 0, none⟩) 8 8, .string s]).run P (w.alloc (.cells zero8 T)) = .ok (goInt s.size) (w.alloc (.cells (pad8 s) T)) := by
  have hl : (s.data.toList.map (fun b => Value.int .u8 (b.toNat : Int))).length = s.size := by rw [List.length_map, len_toList]
  have hst := run_storeCells_at P w.heap.size 0 T (s.data.toList.map (fun b => Value.int .u8 (b.toNat : Int))) 0 zero8
    (w.alloc (.cells zero8 T)) (heap_alloc_new w _) (by rw [hl]; exact Nat.le_trans (by omega) (show 8 ≤ zero8.size from Nat.le_refl _)) (by
      intro v hv
      simp only [List.mem_map] at hv
      obtain ⟨b, _, rfl⟩ := hv
      rfl)
  rw [hl, setRow_new] at hst
  have e0 : zero8.toList.take (0 + 0) ++ s.data.toList.map (fun b => Value.int .u8 (b.toNat : Int)) ++ zero8.toList.drop (0 + 0 + s.size) = s.data.toList.map (fun b => Value.int .u8 (b.toNat : Int)) ++ zero8.toList.drop s.size := by
    simp only [Nat.add_zero, List.take_zero, List.nil_append, Nat.zero_add]
  rw [e0, pad8_eq s h zero8.toList rfl] at hst
  have e1 : ((s.extract 0 s.size).data.map fun b => Value.int .u8 (b.toNat : Int)).toList = s.data.toList.map (fun b => Value.int .u8 (b.toNat : Int)) := by
    rw [Array.toList_map]
    congr 2
    rw [ByteArray.data_extract]
    exact Array.extract_size
  cases hq : P.info? elem with
  | none => simp [hq] at hs
  | some i =>
    have hi : i.size = 1 := by simpa [hq] using hs
    have hmin : Nat.min s.size 8 = s.size := Nat.min_eq_left h
    obtain ⟨A, hA⟩ : ∃ A, A = (s.extract 0 s.size).data.map (fun b => Value.int .u8 (b.toNat : Int)) := ⟨_, rfl⟩
    have hst' : (storeCells ⟨w.heap.size, 0, none⟩ A.toList 0).run P (w.alloc (.cells zero8 T)) = .ok () (w.alloc (.cells (pad8 s) T)) := by rw [hA, e1]; exact hst
    have hfc : Builtin.firstCells 1 s.size (.string s) = pure A := by rw [hA]; rfl
    simp [Builtin.copy_, run_underlying hu, Builtin.lenOf, sizeOf, typeInfo, hq, hi, hmin, hfc, hst']
theorem or_byte (n c : Nat) (hc : c < 256) : n * 256 ||| c = n * 256 + c := by
  have := Nat.two_pow_add_eq_or_of_lt (i := 8) (b := c) (by omega) n
  rw [Nat.mul_comm, ← this]
theorem blk_step (n : Nat) (c : UInt8) (hn : n < 256 ^ 7) : bits .or .u64 ((n : Int) * 256) (IntKind.u64.wrap (c.toNat : Int)) = ((n * 256 + c.toNat : Nat) : Int) := by
  have hc : c.toNat < 256 := c.toNat_lt
  have e1 : IntKind.u64.wrap (c.toNat : Int) = ((c.toNat : Nat) : Int) := by rw [IntKind.wrap_u64]; omega
  have e2 : ((n : Int) * 256) = ((n * 256 : Nat) : Int) := by omega
  rw [e1, e2, u64_or_nat _ _ (by omega) (by omega), or_byte _ _ hc]
theorem xor_u64 (a b : Nat) (ha : a < Dg.M) (hb : b < Dg.M) : bits .xor .u64 (a : Int) (b : Int) = ((a ^^^ b : Nat) : Int) := u64_xor_nat a b ha hb
theorem shr_int (a k : Nat) : ((a : Int) / ((2 ^ k : Nat) : Int)) = ((a >>> k : Nat) : Int) := by rw [Nat.shiftRight_eq_div_pow]; rfl
def mulM (x y : Nat) : Nat := x * y % Dg.M
def mulH (x y : Nat) : Nat := x * y / Dg.M
theorem mulM_lt (x y : Nat) : mulM x y < Dg.M := Nat.mod_lt _ Dg.M_pos
theorem xs_31 (a : Nat) (ha : a < Dg.M) : bits .xor .u64 (a : Int) ((a : Int) / 2147483648) = ((a ^^^ (a >>> 31) : Nat) : Int) := by
  rw [← xor_u64 _ _ ha (Dg.shr_lt ha), ← shr_int]; rfl
theorem xs_30 (a : Nat) (ha : a < Dg.M) : bits .xor .u64 (a : Int) ((a : Int) / 1073741824) = ((a ^^^ (a >>> 30) : Nat) : Int) := by
  rw [← xor_u64 _ _ ha (Dg.shr_lt ha), ← shr_int]; rfl
theorem mul_any (x : Nat) (k : Int) (y : Nat) (hk : k = y) (hx : x < Dg.M) (hy : y < Dg.M) (w : World) :
    Calls Tryz.prog 159 #[.int .u64 x, .int .u64 k] w fun e w' => e = .returned (.tuple #[.int .u64 (mulH x y), .int .u64 (mulM x y)]) ∧ w = w' := by
  subst hk
  refine (Tryz.bits_Mul64 x y hx hy w).mono ?_
  rintro e w' ⟨rfl, rfl⟩
  exact ⟨rfl, rfl⟩
set_option maxHeartbeats 400000 in
theorem mix_any (k : Int) (x : Nat) (hk : k = x) (hx : x < Dg.M) (w : World) :
    Calls Tryz.prog 128 #[.int .u64 k] w fun e w' => e = .returned (.int .u64 (Dg.mix x)) ∧ w = w' := by
  subst hk
  go_enter Tryz.func128, Tryz.ntmps128
  go_wp2_with fail
  refine (mul_any _ _ 6364136223846793005 rfl hx (by unfold Dg.M; omega) _).mono ?_
  rintro e w' ⟨rfl, rfl⟩
  have h1 := mulM_lt x 6364136223846793005
  generalize hm : mulM x 6364136223846793005 = m at *
  have HM := hide hm; clear hm
  go_wp2_with fail
  rw [xs_31 m h1]
  refine (mul_any _ _ 3202034522624059733 rfl (Dg.xor_lt h1 (Dg.shr_lt h1)) (by unfold Dg.M; omega) _).mono ?_
  rintro e w' ⟨rfl, rfl⟩
  have h2 := mulM_lt (m ^^^ (m >>> 31)) 3202034522624059733
  generalize hm2 : mulM (m ^^^ (m >>> 31)) 3202034522624059733 = m2 at *
  have HM2 := hide hm2; clear hm2
  go_wp2
  go_ret
  refine ⟨ret_int ?_, rfl⟩
  rw [xs_30 m2 h2, ← HM2.out, ← HM.out]
  rfl
set_option maxHeartbeats 400000 in
theorem take_any (s : ByteArray) (hs : s.size ≤ 8) (x : Nat) (hx : x < Dg.M) (b : Nat) (w : World) (hb : b < w.heap.size) (hc : w.cell? ⟨b, 0, none⟩ = some (.int .u64 x)) (hf : w.frozen? ⟨b, 0, none⟩ = false) :
    Calls Tryz.prog 127 #[.string s, .pointer (some ⟨b, 0, none⟩)] w fun e w' => e = .returned (.tuple #[]) ∧ ∃ o, w' = (w.setCell ⟨b, 0, none⟩ (.int .u64 (Dg.mix (x ^^^ Dg.blk (Dg.L s))))).alloc o := by
  have hcp := run_copy8 (P := Tryz.prog) 125 9 3 5 154 s hs (by kernel_rfl) (by kernel_rfl) w
  unfold zero8 at hcp
  go_enter Tryz.func127, Tryz.ntmps127
  go_wp2_with fail
  clear hcp
  go_loop [4, 5, 9] (fun n _ i => ∃ k : Nat, k ≤ 8 ∧ i = .int .i64 k ∧ n = .int .u64 (Dg.blkTo s.data.toList k)) (fun _ _ i => 8 - (intOf i).toNat)
  case atStart => exact ⟨0, by omega, rfl, rfl⟩
  case round =>
    obtain ⟨k, hk, rfl, rfl⟩ := hrel
    by_cases hlt : k < 8
    · have hcell := pad8_get s k hlt
      have hb1 : Dg.blkTo s.data.toList k < 256 ^ 7 := Nat.lt_of_lt_of_le (Dg.blkTo_lt _ k) (Nat.pow_le_pow_right (by omega) (by omega))
      have hb2 := (s.data.toList.getD k 0).toNat_lt
      go_wp2
      go_round
      case rel =>
        refine ⟨k + 1, by omega, by go_num, ?_⟩
        have hst := blk_step (Dg.blkTo s.data.toList k) (s.data.toList.getD k 0) hb1
        rw [show s.data[k]?.getD 0 = s.data.toList.getD k 0 by simp [List.getD_eq_getElem?_getD], hst]
        rfl
      case measure => simp [intOf]; omega
    · obtain rfl : k = 8 := by omega
      have hbl := Dg.blk_lt s.data.toList
      go_wp2_with fail
      refine (mix_any _ (x ^^^ Dg.blk s.data.toList) (xor_u64 _ _ hx hbl) (Dg.xor_lt hx hbl) _).mono ?_
      rintro e w' ⟨rfl, rfl⟩
      go_wp2
      go_end0
      exact ⟨rfl, _, rfl⟩
end Go.Proofs.YtobhpeockinnjaaGreatDoor
namespace Go.Proofs.YtobhpeockinnjaaGreatDoor
open Go Go.RowKit
def digV (k i : Nat) : Value := .int .u8 (if i < k then ((Dg.hexDigit i).toNat : Int) else 0)
def digCells (k : Nat) : Array Value := #[digV k 0, digV k 1, digV k 2, digV k 3, digV k 4, digV k 5, digV k 6, digV k 7, digV k 8, digV k 9, digV k 10, digV k 11, digV k 12, digV k 13, digV k 14, digV k 15]
theorem lt16 {k : Nat} (h : k < 16) : k = 0 ∨ k = 1 ∨ k = 2 ∨ k = 3 ∨ k = 4 ∨ k = 5 ∨ k = 6 ∨ k = 7 ∨ k = 8 ∨ k = 9 ∨ k = 10 ∨ k = 11 ∨ k = 12 ∨ k = 13 ∨ k = 14 ∨ k = 15 := by omega
theorem digCells_set (k : Nat) (hk : k < 16) (v : Value) (hv : v = .int .u8 ((Dg.hexDigit k).toNat : Int)) : (digCells k).setIfInBounds k v = digCells (k + 1) := by
  subst hv
  rcases lt16 hk with rfl | rfl | rfl | rfl | rfl | rfl | rfl | rfl | rfl | rfl | rfl | rfl | rfl | rfl | rfl | rfl <;> rfl
theorem digCells_size (k : Nat) : (digCells k).size = 16 := rfl
theorem digCells_get (k i : Nat) (hi : i < 16) : (digCells k)[i]? = some (digV k i) := by
  rcases lt16 hi with rfl | rfl | rfl | rfl | rfl | rfl | rfl | rfl | rfl | rfl | rfl | rfl | rfl | rfl | rfl | rfl <;> rfl
theorem digCells_one : (digCells 16).all (·.oneCell') = true := by
  simp [digCells, digV, Value.oneCell']
theorem arr16u : Tryz.prog.underlying 156 = some (.array 16 5) := by kernel_rfl
theorem arr16i : (Tryz.prog.info? 156).map (·.size) = some (digCells 16).size := by kernel_rfl
set_option maxHeartbeats 400000 in
theorem digits_any (w : World) :
    Calls Tryz.prog 129 #[] w fun e w' => e = .returned (.agg (digCells 16)) ∧ Below w.heap.size w w' := by
  go_enter Tryz.func129, Tryz.ntmps129
  go_wp2
  go_loopw [2, 3] (fun _ i wr => ∃ k : Nat, k ≤ 16 ∧ i = .int .i64 k ∧ wr = (w.alloc (.cells (digCells 0) 156)).alloc (.cells (digCells k) 156)) (fun _ i _ => 16 - (intOf i).toNat)
  case atStart => exact ⟨0, by omega, rfl, rfl⟩
  case round =>
    obtain ⟨k, hk, rfl, rfl⟩ := hrel
    by_cases hlt : k < 16
    · have hcell := digCells_get k k hlt
      have hsz := digCells_size k
      have hset := digCells_set k hlt
      unfold digV at hcell
      rw [if_neg (by omega)] at hcell
      have HS := hide hset; clear hset
      by_cases h10 : k < 10
      · have hd := hide (Dg.hexDigit_lo k h10)
        go_wp2
        go_roundw
        case rel => exact ⟨k + 1, by omega, by go_num, by rw [HS.out _ (by rw [hd.out])]⟩
        case measure => simp [intOf]; omega
      · have hd := hide (Dg.hexDigit_hi k h10 hlt)
        go_wp2
        go_roundw
        case rel => exact ⟨k + 1, by omega, by go_num, by rw [HS.out _ (by rw [hd.out])]⟩
        case measure => simp [intOf]; omega
    · obtain rfl : k = 16 := by omega
      have hg1 := heap_alloc2_new w (.cells (digCells 0) 156) (.cells (digCells 16) 156)
      have hg0 := heap_alloc2_old w (.cells (digCells 0) 156) (.cells (digCells 16) 156)
      have hg0' := setRow_heap _ w.heap.size (digCells 0) (digCells 16) 156 (0, 0) hg0
      go_wp2_with (first | (refine wpList_load_row rfl 156 (.tmp 1) rfl (w.heap.size + 1) rfl 156 (digCells 16) (0, 0) (.array 16 5) hg1 arr16u rfl arr16i ?_) | (refine wpList_store_row rfl 156 (.tmp 0) (.tmp 20) rfl w.heap.size (digCells 16) rfl rfl 156 (digCells 0) hg0 arr16i rfl digCells_one ?_))
      refine bodyPost_ret (results_cell_row (P := Tryz.prog) Tryz.results129 _ _ w.heap.size 156 (digCells 16) (0, 0) (.array 16 5) rfl hg0' arr16u rfl arr16i) rfl ⟨rfl, ?_⟩
      refine ⟨rfl, rfl, rfl, by simp; omega, fun j hj => ?_⟩
      rw [setRow_other _ _ _ _ (by omega)]
      exact (Below.heap_alloc _ _ _ (by simp; omega)).trans (Below.heap_alloc _ _ _ hj)
end Go.Proofs.YtobhpeockinnjaaGreatDoor
namespace Go.Proofs.YtobhpeockinnjaaGreatDoor
open Go Go.RowKit
def IV : Nat := 1442695040888963407
theorem iv_xor (n : Nat) (hn : n < Dg.M) : bits .xor .u64 (1442695040888963407 : Int) (n : Int) = ((IV ^^^ n : Nat) : Int) := xor_u64 IV n (by unfold IV Dg.M; omega) hn
structure SumRel (w : World) (s t : ByteArray) (st : Nat) (wr : World) : Prop where
  below : Below w.heap.size w wr
  blk : wr.heap[w.heap.size]? = some (.cells #[.int .u64 (st : Int)] 145 (0, 0))
  lt : st < Dg.M
  size : t.size ≤ s.size
  run : Dg.run ((Dg.L t).length / 8 + 1) st (Dg.L t) = Dg.state (Dg.L s)
def strLen : Value → Nat
  | .string s => s.size
  | _ => 0
theorem sumRel_start (w : World) (s : ByteArray) (hs : s.size ≤ 9223372036854775807) (x : Int) (hx : x = ((IV ^^^ s.size : Nat) : Int)) : SumRel w s s (IV ^^^ s.size) (w.alloc (.cells #[.int .u64 x] 145)) := by
  subst hx
  exact ⟨(Below.refl _ _).alloc (Nat.le_refl _) _, heap_alloc_new w _, Dg.xor_lt (by unfold IV Dg.M; omega) (by unfold Dg.M; omega), Nat.le_refl _, by rw [Dg.len_L]; unfold Dg.state; rw [Dg.len_L]; rfl⟩
theorem sumRel_lt {w : World} {s t : ByteArray} {st : Nat} {wr : World} (h : SumRel w s t st wr) : w.heap.size < wr.heap.size := lt_of_block h.blk
theorem sumRel_set {wr : World} {b st x : Nat} (h : wr.heap[b]? = some (.cells #[.int .u64 (st : Int)] 145 (0, 0))) (o : Obj) :
    ((wr.setCell ⟨b, 0, none⟩ (.int .u64 (x : Int))).alloc o).heap[b]? = some (.cells #[.int .u64 (x : Int)] 145 (0, 0)) := by
  rw [Below.heap_alloc _ _ _ (by have := lt_of_block h; simpa [World.setCell] using this)]
  exact one_setCell h
theorem sumRel_next {w : World} {s t : ByteArray} {st : Nat} {wr : World} (h : SumRel w s t st wr) (h8 : 8 ≤ t.size) (o : Obj) :
    SumRel w s (t.extract 8 t.size) (Dg.mix (st ^^^ Dg.blk (Dg.L (t.extract 0 8)))) ((wr.setCell ⟨w.heap.size, 0, none⟩ (.int .u64 (Dg.mix (st ^^^ Dg.blk (Dg.L (t.extract 0 8))) : Nat))).alloc o) := by
  have hl := Dg.len_L t
  have e1 : Dg.L (t.extract 8 t.size) = (Dg.L t).drop 8 := by rw [Dg.L_extract, List.take_of_length_le (by omega)]
  have e2 : Dg.blk (Dg.L (t.extract 0 8)) = Dg.blk (Dg.L t) := by rw [Dg.L_extract, List.drop_zero, Dg.blk_take]
  refine ⟨(h.below.setCell (Nat.le_refl _) _).alloc (by have := sumRel_lt h; simp [World.setCell]; omega) _, sumRel_set h.blk o, Dg.mix_lt _, ?_, ?_⟩
  · have := h.size
    rw [← Dg.len_L, e1, List.length_drop]; omega
  · rw [e1, e2, ← Dg.run_step _ _ (by omega)]
    exact h.run
theorem sumRel_last {w : World} {s t : ByteArray} {st : Nat} {wr : World} (h : SumRel w s t st wr) (h8 : ¬ 8 ≤ t.size) : Dg.mix (st ^^^ Dg.blk (Dg.L t)) = Dg.state (Dg.L s) := by
  rw [← h.run, Dg.len_L, show t.size / 8 = 0 by omega]
  rfl
def zero16 : Array Value := #[.int .u8 0, .int .u8 0, .int .u8 0, .int .u8 0, .int .u8 0, .int .u8 0, .int .u8 0, .int .u8 0, .int .u8 0, .int .u8 0, .int .u8 0, .int .u8 0, .int .u8 0, .int .u8 0, .int .u8 0, .int .u8 0]
theorem run_fill {P : Program} (w : World) (A C : Array Value) (T : TypeId) (hsz : A.size = C.size) (h1 : C.all (·.oneCell') = true) :
    (storeCells ⟨w.heap.size, 0, none⟩ C.toList).run P (w.alloc (.cells A T)) = .ok () (w.alloc (.cells C T)) := by
  have := run_storeCells_from (P := P) w.heap.size T C.toList 0 A (w.alloc (.cells A T)) (heap_alloc_new w _) (by simp; omega) (fun v hv => (Array.all_eq_true_iff_forall_mem.1 h1) v (by simpa using hv))
  rw [this]
  simp [setRow_new]
def outV (S k i : Nat) : Value := .int .u8 (if i < k then ((Dg.hexDigit (S / 16 ^ (15 - i) % 16)).toNat : Int) else 0)
def outCells (S k : Nat) : Array Value := #[outV S k 0, outV S k 1, outV S k 2, outV S k 3, outV S k 4, outV S k 5, outV S k 6, outV S k 7, outV S k 8, outV S k 9, outV S k 10, outV S k 11, outV S k 12, outV S k 13, outV S k 14, outV S k 15]
theorem outCells_size (S k : Nat) : (outCells S k).size = 16 := rfl
theorem outCells_set (S k : Nat) (hk : k < 16) : (outCells S k).setIfInBounds k (.int .u8 ((Dg.hexDigit (S / 16 ^ (15 - k) % 16)).toNat : Int)) = outCells S (k + 1) := by
  rcases lt16 hk with rfl | rfl | rfl | rfl | rfl | rfl | rfl | rfl | rfl | rfl | rfl | rfl | rfl | rfl | rfl | rfl <;> rfl
theorem outCells_get (S k i : Nat) (hi : i < 16) : (outCells S k)[i]? = some (outV S k i) := by
  rcases lt16 hi with rfl | rfl | rfl | rfl | rfl | rfl | rfl | rfl | rfl | rfl | rfl | rfl | rfl | rfl | rfl | rfl <;> rfl
theorem nib (S k : Nat) (hk : k < 16) (hS : S < Dg.M) : bits .and .u64 ((S : Int) / 2 ^ (60 - 4 * k)) 15 = ((S / 16 ^ (15 - k) % 16 : Nat) : Int) := by
  have e : (2 : Int) ^ (60 - 4 * k) = ((16 ^ (15 - k) : Nat) : Int) := by
    rw [show 60 - 4 * k = 4 * (15 - k) by omega, Int.pow_mul]
    exact (Int.natCast_pow 16 (15 - k)).symm
  have hlt : S / 16 ^ (15 - k) < 18446744073709551616 := Nat.lt_of_le_of_lt (Nat.div_le_self _ _) hS
  rw [e, ← Int.natCast_ediv]
  have := u64_and_nat (S / 16 ^ (15 - k)) 15 hlt (by omega)
  rw [show ((15 : Nat) : Int) = 15 from rfl] at this
  rw [this]
  congr 1
  exact Nat.and_two_pow_sub_one_eq_mod _ 4
theorem outCells_hex (S j : Nat) (hj : j < (Dg.hex S).length) : (outCells S 16)[j]? = some (.int .u8 (((Dg.hex S)[j]).toNat : Int)) := by
  have h16 : (Dg.hex S).length = 16 := Dg.hexTo_len S 16
  have h := Dg.hexTo_get S 16 j (by omega)
  have e : (Dg.hex S)[j] = Dg.hexDigit (S / 16 ^ (15 - j) % 16) := Option.some.inj ((List.getElem?_eq_getElem hj).symm.trans h)
  rw [e, outCells_get S 16 j (by omega)]
  unfold outV
  rw [if_pos (by omega)]
theorem run_out {P : Program} (w : World) (A : Array Value) (T : TypeId) (S : Nat) (src dst e : TypeId) (hs : P.underlying src = some (.slice e)) (he : P.underlying e = some (.int .u8)) (hd : P.underlying dst = some .string) :
    (convert src dst (.slice (some ⟨w.heap.size + 1, 0, none⟩) 16 16)).run P ((w.alloc (.cells A T)).alloc (.cells (outCells S 16) T)) = .ok (.string (Dg.B (Dg.hex S))) ((w.alloc (.cells A T)).alloc (.cells (outCells S 16) T)) := by
  have h16 : (Dg.hex S).length = 16 := Dg.hexTo_len S 16
  have := run_convert_bytes_back (P := P) ((w.alloc (.cells A T)).alloc (.cells (outCells S 16) T)) src dst e ⟨w.heap.size + 1, 0, none⟩ 16 (Dg.hex S) hs he hd (fun j hj => by
    have hadd : (⟨w.heap.size + 1, 0, none⟩ : Addr).add j = ⟨w.heap.size + 1, j, none⟩ := by unfold Addr.add; split <;> simp_all
    rw [hadd, cell_of_row _ _ _ _ _ _ (heap_alloc2_new w _ _), outCells_hex S j hj])
  rw [h16] at this
  exact this
set_option maxHeartbeats 1000000 in
theorem sum_any (s : ByteArray) (hs : s.size ≤ 9223372036854775807) (w : World) :
    Calls Tryz.prog 96 #[.string s] w fun e w' => e = .returned (.string (Dg.sumB s)) ∧ Below w.heap.size w w' := by
  have h0 := hide (iv_xor s.size (by unfold Dg.M; omega))
  go_enter Tryz.func96, Tryz.ntmps96
  go_wp2
  go_loopw [0] (fun v wr => ∃ (t : ByteArray) (st : Nat), v = .string t ∧ SumRel w s t st wr) (fun v _ => strLen v)
  case atStart => exact ⟨s, _, rfl, sumRel_start w s hs _ h0.out⟩
  case round =>
    obtain ⟨t, st, rfl, hrel⟩ := hrel
    have hz := hrel.size
    have hlt := sumRel_lt hrel
    by_cases h8 : 8 ≤ t.size
    · go_wp2_with fail
      refine (take_any (t.extract 0 8) (by rw [← Dg.len_L, Dg.L_extract]; simp only [List.drop_zero, List.length_take]; omega) st hrel.lt w.heap.size _ hlt (cell_of_one hrel.blk) (free_of_one hrel.blk)).mono ?_
      rintro e w' ⟨rfl, o, rfl⟩
      have hn := sumRel_next hrel h8 o
      go_wp2
      go_roundw
      case rel => exact ⟨_, _, rfl, hn⟩
      case measure => simp only [strLen]; rw [← Dg.len_L, Dg.L_extract, List.length_drop, List.length_take, Dg.len_L]; omega
    · go_wp2_with fail
      refine (take_any t (by omega) st hrel.lt w.heap.size _ hlt (cell_of_one hrel.blk) (free_of_one hrel.blk)).mono ?_
      rintro e w' ⟨rfl, o, rfl⟩
      obtain ⟨W, hW⟩ : ∃ W, W = (wr.setCell ⟨w.heap.size, 0, none⟩ (.int .u64 (Dg.mix (st ^^^ Dg.blk (Dg.L t)) : Nat))).alloc o := ⟨_, rfl⟩
      have hb1 : Below w.heap.size w W := by subst hW; exact (hrel.below.setCell (Nat.le_refl _) _).alloc (by simp [World.setCell]; omega) _
      have hk1 : W.heap[w.heap.size]? = some (.cells #[.int .u64 ((Dg.state (Dg.L s) : Nat) : Int)] 145 (0, 0)) := by
        subst hW; rw [← sumRel_last hrel h8]; exact sumRel_set hrel.blk o
      rw [← hW]
      clear hW hrel hlt hz h8
      have hst := Dg.state_lt (Dg.L s)
      generalize hS : Dg.state (Dg.L s) = S at *
      have HS := hide hS; clear hS
      go_wp2_with fail
      refine (digits_any _).mono ?_
      rintro e w2 ⟨rfl, hb2⟩
      have hb3 := hb1.trans (hb2.mono (by have := lt_of_block hk1; omega))
      have hk3 : w2.heap[w.heap.size]? = some (.cells #[.int .u64 (S : Int)] 145 (0, 0)) := by rw [hb2.block _ (lt_of_block hk1)]; exact hk1
      have hlt3 := lt_of_block hk3
      clear hk1 hb1 hb2
      have hfill := run_fill (P := Tryz.prog) w2 zero16 (digCells 16) 156 rfl digCells_one
      unfold zero16 at hfill
      go_wp2
      clear hfill
      go_loopw [7, 26] (fun _ i wr => ∃ k : Nat, k ≤ 16 ∧ i = .int .i64 k ∧ wr = (w2.alloc (.cells (digCells 16) 156)).alloc (.cells (outCells S k) 156)) (fun _ i _ => 16 - (intOf i).toNat)
      case atStart => exact ⟨0, by omega, rfl, rfl⟩
      case round =>
        obtain ⟨k, hk, rfl, rfl⟩ := hrel
        have hc3 := cell_of_one hk3
        by_cases hlt : k < 16
        · have hcell := outCells_get S k k hlt
          have hsz := outCells_size S k
          unfold outV at hcell
          rw [if_neg (by omega)] at hcell
          have hset := outCells_set S k hlt
          have hidx := nib S k hlt hst
          have hd : S / 16 ^ (15 - k) % 16 < 16 := Nat.mod_lt _ (by omega)
          generalize S / 16 ^ (15 - k) % 16 = d at *
          have hdc := digCells_get 16 d hd
          unfold digV at hdc
          rw [if_pos hd] at hdc
          have hdc' : ∀ h : d < (digCells 16).size, (digCells 16)[d] = .int .u8 ((Dg.hexDigit d).toNat : Int) := fun h => Option.some.inj ((Array.getElem?_eq_getElem h).symm.trans hdc)
          have HSET := hide hset; clear hset
          go_wp2
          go_roundw
          case rel => exact ⟨k + 1, by omega, by go_num, by rw [HSET.out]⟩
          case measure => simp [intOf]; omega
        · obtain rfl : k = 16 := by omega
          have hconv := run_out (P := Tryz.prog) w2 (digCells 16) 156 S 125 9 5 (by kernel_rfl) (by kernel_rfl) (by kernel_rfl)
          generalize outCells S 16 = OC at *
          go_wp2
          go_ret
          refine ⟨ret_str ?_, (hb3.alloc (by omega) _).alloc (by simp; omega) _⟩
          rw [← HS.out]; rfl
end Go.Proofs.YtobhpeockinnjaaGreatDoor
namespace Go.Proofs.YtobhpeockinnjaaGreatDoor
open Go Go.RowKit
theorem wrap_mul (a c : Nat) (C : Int) (hC : C = c) : IntKind.u64.wrap ((a : Int) * C) = ((mulM a c : Nat) : Int) := by
  subst hC
  rw [IntKind.wrap_u64]
  unfold mulM Dg.M
  omega
set_option maxHeartbeats 400000 in
theorem rmix_any (k : Int) (x : Nat) (hk : k = x) (_hx : x < Dg.M) (w : World) :
    Calls Tryz.prog 112 #[.int .u64 k] w fun e w' => e = .returned (.int .u64 (Dg.mix x)) ∧ w = w' := by
  subst hk
  go_enter Tryz.func112, Tryz.ntmps112
  go_wp2
  go_ret
  refine ⟨ret_int ?_, rfl⟩
  rw [wrap_mul x 6364136223846793005 6364136223846793005 rfl, xs_31 _ (mulM_lt _ _), wrap_mul _ 3202034522624059733 3202034522624059733 rfl, xs_30 _ (mulM_lt _ _)]
  rfl
set_option maxHeartbeats 400000 in
theorem chain_any (s : ByteArray) (hs : s.size ≤ 4611686018427387904) (n : Int) (w : World) :
    Calls Tryz.prog 79 #[.string s, .int .i64 n] w fun e w' => e = .returned (.string (Dg.chainB s (min n 1000).toNat)) ∧ Below w.heap.size w w' := by
  have hN : max 0 (min n 1000) = ((min n 1000).toNat : Int) := by omega
  have hN2 : (min n 1000).toNat ≤ 1000 := by omega
  generalize (min n 1000).toNat = N at *
  go_enter Tryz.func79, Tryz.ntmps79
  go_wp2
  clear hN
  go_loopw [0, 8] (fun v i wr => ∃ k : Nat, k ≤ N ∧ i = .int .i64 k ∧ v = .string (Dg.chainB s k) ∧ Below w.heap.size w wr) (fun _ i _ => N - (intOf i).toNat)
  case atStart => exact ⟨0, by omega, rfl, by rw [Dg.chainB_zero], Below.refl _ _⟩
  case round =>
    obtain ⟨k, hk, rfl, rfl, hb⟩ := hrel
    have hz := Dg.chainB_le s k
    have hz2 := hb.size
    by_cases hlt : k < N
    · go_wp2_with fail
      refine (sum_any _ (by omega) _).mono ?_
      rintro e w' ⟨rfl, hb1⟩
      have hb2 := hb.trans (hb1.mono hz2)
      go_wp2
      go_roundw
      case rel => exact ⟨k + 1, by omega, by go_num, rfl, hb2⟩
      case measure => simp [intOf]; omega
    · obtain rfl : k = N := by omega
      go_wp2
      go_ret
      exact ⟨rfl, hb⟩
theorem toList_L (s : ByteArray) : s.toList = Dg.L s := ByteArray.toList_eq s
theorem hexes_all : ∀ n, n < 256 → Dg.hexes.contains (UInt8.ofNat n) = Dg.isDig (UInt8.ofNat n) := by decide +kernel
theorem hexes_isDig (c : UInt8) : Dg.hexes.contains c = Dg.isDig c := by
  have := hexes_all c.toNat c.toNat_lt
  rwa [UInt8.ofNat_toNat] at this
theorem dropWhile_nil {p : UInt8 → Bool} (l : List UInt8) : l.dropWhile p = [] ↔ ∀ x ∈ l, p x = true := by
  induction l with
  | nil => simp
  | cons a r ih =>
    rw [List.dropWhile_cons]
    by_cases h : p a = true
    · rw [if_pos h, ih]; simp [h]
    · rw [if_neg h]; simp [h]
theorem trim_empty (l : List UInt8) : (Lib.trimS l Dg.hexes).isEmpty = l.all Dg.isDig := by
  have hp : (fun c => Dg.hexes.contains c) = Dg.isDig := funext hexes_isDig
  unfold Lib.trimS Lib.trimLeftS Lib.trimRightS
  rw [show (fun x => Dg.hexes.contains x) = Dg.isDig from hp]
  rw [Bool.eq_iff_iff, List.isEmpty_iff, dropWhile_nil, List.all_eq_true]
  constructor
  · intro h x hx
    have hx' : x ∈ l.reverse.takeWhile Dg.isDig ++ l.reverse.dropWhile Dg.isDig := by rw [List.takeWhile_append_dropWhile]; exact List.mem_reverse.2 hx
    rcases List.mem_append.1 hx' with h1 | h1
    · have := List.all_takeWhile (p := Dg.isDig) (l := l.reverse)
      exact List.all_eq_true.1 this x h1
    · exact h x (List.mem_reverse.2 h1)
  · intro h x hx
    have h1 := List.mem_reverse.1 hx
    have h2 : x ∈ l.reverse := List.Sublist.mem h1 (List.dropWhile_sublist _)
    exact h x (List.mem_reverse.1 h2)
theorem trim_any (s : ByteArray) (hs : s.size ≤ 9223372036854775807) (w : World) :
    Calls Tryz.prog 102 #[.string s, .string ⟨#[48, 49, 50, 51, 52, 53, 54, 55, 56, 57, 97, 98, 99, 100, 101, 102]⟩] w fun e w' => e = .returned (.string (Dg.B (Lib.trimS (Dg.L s) Dg.hexes))) ∧ Below w.heap.size w w' :=
  Any.strings_Trim_laid Tryz.lays160 (by kernel_rfl) s ⟨#[48, 49, 50, 51, 52, 53, 54, 55, 56, 57, 97, 98, 99, 100, 101, 102]⟩ w hs (by decide) (ascii_of_all (by decide))
set_option maxHeartbeats 400000 in
theorem is_any (s : ByteArray) (_hs : s.size ≤ 4611686018427387904) (w : World) :
    Calls Tryz.prog 58 #[.string s] w fun e w' => e = .returned (.bool (Dg.isB s)) ∧ Below w.heap.size w w' := by
  by_cases h16 : s.size = 16
  · go_enter Tryz.func58, Tryz.ntmps58
    go_wp2_with fail
    refine (trim_any s (by omega) _).mono ?_
    rintro e w' ⟨rfl, hb⟩
    generalize hT : Dg.B (Lib.trimS (Dg.L s) Dg.hexes) = T at *
    have HT := hide hT; clear hT
    go_wp2
    go_ret
    refine ⟨ret_bool ?_, hb⟩
    rw [toList_L, ← HT.out, Dg.L_B, trim_empty, Dg.isB, Dg.is, Dg.len_L, h16]
    rfl
  · go_enter Tryz.func58, Tryz.ntmps58
    go_wp2
    go_ret
    refine ⟨ret_bool ?_, Below.refl _ _⟩
    have e : (s.size == 16) = false := by simpa using h16
    rw [Dg.isB, Dg.is, Dg.len_L, e, Bool.false_and]
set_option maxHeartbeats 400000 in
theorem digit_any (c : UInt8) (w : World) :
    Calls Tryz.prog 103 #[.int .u8 (c.toNat : Int)] w fun e w' => e = .returned (.int .i64 (Dg.digit c)) ∧ w = w' := by
  have hc := c.toNat_lt
  by_cases h1 : 48 ≤ c.toNat
  · by_cases h2 : c.toNat ≤ 57
    · go_enter Tryz.func103, Tryz.ntmps103
      go_wp2
      go_ret
      refine ⟨ret_int ?_, rfl⟩
      unfold Dg.digit
      (repeat' split) <;> omega
    · by_cases h3 : 97 ≤ c.toNat
      · by_cases h4 : c.toNat ≤ 102
        · go_enter Tryz.func103, Tryz.ntmps103
          go_wp2
          go_ret
          refine ⟨ret_int ?_, rfl⟩
          unfold Dg.digit
          (repeat' split) <;> omega
        · go_enter Tryz.func103, Tryz.ntmps103
          go_wp2
          go_ret
          refine ⟨ret_int ?_, rfl⟩
          unfold Dg.digit
          (repeat' split) <;> omega
      · go_enter Tryz.func103, Tryz.ntmps103
        go_wp2
        go_ret
        refine ⟨ret_int ?_, rfl⟩
        unfold Dg.digit
        (repeat' split) <;> omega
  · go_enter Tryz.func103, Tryz.ntmps103
    go_wp2
    go_ret
    refine ⟨ret_int ?_, rfl⟩
    unfold Dg.digit
    (repeat' split) <;> omega
theorem getB (s : ByteArray) (k : Nat) (h : k < s.size) : s[k] = (Dg.L s)[k]'(by rw [Dg.len_L]; exact h) := rfl
theorem take_all (s : ByteArray) (k : Nat) (h : k < s.size) : ((Dg.L s).take (k + 1)).all Dg.isDig = (((Dg.L s).take k).all Dg.isDig && Dg.isDig s[k]) := by
  rw [List.take_succ_eq_append_getElem (by rw [Dg.len_L]; exact h), List.all_append]
  simp [getB]
theorem not_all (s : ByteArray) (k : Nat) (h : k < s.size) (hd : Dg.isDig ((Dg.L s)[k]'(by rw [Dg.len_L]; exact h)) = false) : (Dg.L s).all Dg.isDig = false := by
  rw [List.all_eq_false]
  exact ⟨(Dg.L s)[k]'(by rw [Dg.len_L]; exact h), List.getElem_mem _, by rw [hd]; simp⟩
theorem is_take (s : ByteArray) (k : Nat) (h : s.size ≤ k ∨ 16 ≤ k ∧ k ≤ s.size) (hall : ((Dg.L s).take k).all Dg.isDig = true) : ((s.size : Int) == 16) = Dg.isB s := by
  rw [Dg.isB, Dg.is, Dg.len_L]
  by_cases h16 : s.size = 16
  · have e : (Dg.L s).take k = Dg.L s := List.take_of_length_le (by rw [Dg.len_L]; omega)
    rw [e] at hall
    rw [hall, h16]; rfl
  · have e1 : (s.size == 16) = false := by simpa using h16
    have e2 : ((s.size : Int) == 16) = false := by
      rw [beq_eq_false_iff_ne]; omega
    rw [e1, e2]; rfl
theorem isDig_iff (c : UInt8) : Dg.isDig c = true ↔ 48 ≤ c.toNat ∧ c.toNat ≤ 57 ∨ 97 ≤ c.toNat ∧ c.toNat ≤ 102 := by
  simp [Dg.isDig, UInt8.le_iff_toNat_le]
theorem digit_pos (c : UInt8) (h : Dg.isDig c = true) : 0 ≤ Dg.digit c := by
  have := (isDig_iff c).1 h
  unfold Dg.digit
  (repeat' split) <;> omega
theorem digit_neg (c : UInt8) (h : Dg.isDig c = false) : Dg.digit c < 0 := by
  have : ¬ (48 ≤ c.toNat ∧ c.toNat ≤ 57 ∨ 97 ≤ c.toNat ∧ c.toNat ≤ 102) := fun h' => by rw [(isDig_iff c).2 h'] at h; cases h
  unfold Dg.digit
  (repeat' split) <;> omega
set_option maxHeartbeats 400000 in
theorem ris_any (s : ByteArray) (hs : s.size ≤ 4611686018427387904) (w : World) :
    Calls Tryz.prog 59 #[.string s] w fun e w' => e = .returned (.bool (Dg.isB s)) ∧ w = w' := by
  go_enter Tryz.func59, Tryz.ntmps59
  go_wp2
  go_loop [3] (fun i => ∃ k : Nat, k ≤ s.size ∧ k ≤ 16 ∧ i = .int .i64 k ∧ ((Dg.L s).take k).all Dg.isDig = true) (fun i => 16 - (intOf i).toNat)
  case atStart => exact ⟨0, by omega, by omega, rfl, rfl⟩
  case round =>
    obtain ⟨k, hk, hk2, rfl, hall⟩ := hrel
    have HA := hide hall; clear hall
    by_cases hlt : k < s.size
    · by_cases hlt2 : k < 16
      · have hget := hide (getB s k hlt)
        go_wp2_with fail
        refine (digit_any _ _).mono ?_
        rintro e w' ⟨rfl, rfl⟩
        have ht := hide (take_all s k hlt)
        generalize s[k] = c at *
        by_cases hd : Dg.isDig c = true
        · have hn := digit_pos c hd
          have HD := hide hd; clear hd
          go_wp2
          go_round
          case rel => exact ⟨k + 1, by omega, by omega, by go_num, by rw [ht.out, HA.out, HD.out]; rfl⟩
          case measure => simp [intOf]; omega
        · have hd : Dg.isDig c = false := by simpa using hd
          have hn := digit_neg c hd
          have HD := hide hd; clear hd
          go_wp2
          go_ret
          refine ⟨ret_bool ?_, rfl⟩
          have h1 := not_all s k hlt
          rw [← hget.out] at h1
          rw [Dg.isB, Dg.is, h1 HD.out, Bool.and_false]
      · obtain rfl : k = 16 := by omega
        go_wp2
        go_ret
        exact ⟨ret_bool (is_take s 16 (by omega) HA.out), rfl⟩
    · obtain rfl : k = s.size := by omega
      go_wp2
      go_ret
      exact ⟨ret_bool (is_take s s.size (by omega) HA.out), rfl⟩
end Go.Proofs.YtobhpeockinnjaaGreatDoor
namespace Go.Proofs.YtobhpeockinnjaaGreatDoor
open Go Go.RowKit
theorem blkTo_ext (l : List UInt8) (a j : Nat) : Dg.blkTo (l.drop a) (j + 1) = Dg.blkTo (l.drop a) j * 256 + (l.getD (a + j) 0).toNat := by
  rw [Dg.blkTo, List.getD_eq_getElem?_getD, List.getD_eq_getElem?_getD, List.getElem?_drop]
theorem run_drop (k s : Nat) (l : List UInt8) (n : Nat) (h : 0 < k) : Dg.run k s (l.drop n) = Dg.run (k - 1) (Dg.mix (s ^^^ Dg.blk (l.drop n))) (l.drop (n + 8)) := by
  obtain ⟨k, rfl⟩ : ∃ j, k = j + 1 := ⟨k - 1, by omega⟩
  rw [Dg.run, List.drop_drop]
  rfl
theorem getD_B (s : ByteArray) (i : Nat) (h : i < s.size) : (Dg.L s).getD i 0 = s[i] := by
  rw [getB, List.getD_eq_getElem?_getD, List.getElem?_eq_getElem (by rw [Dg.len_L]; exact h)]; rfl
theorem getD_out (s : ByteArray) (i : Nat) (h : ¬ i < s.size) : (Dg.L s).getD i 0 = 0 := by
  rw [List.getD_eq_getElem?_getD, List.getElem?_eq_none (by rw [Dg.len_L]; omega)]; rfl
theorem mul_add_byte (n : Nat) (c : UInt8) (hn : n < 256 ^ 7) : IntKind.u64.wrap ((n : Int) * 256 + IntKind.u64.wrap (c.toNat : Int)) = ((n * 256 + c.toNat : Nat) : Int) := by
  have hc := c.toNat_lt
  rw [IntKind.wrap_u64, IntKind.wrap_u64]
  omega
theorem mul_out (n : Nat) : (n : Int) * 256 = ((n * 256 + (0 : UInt8).toNat : Nat) : Int) := by
  rw [show (0 : UInt8).toNat = 0 from rfl]
  omega
def hexTail (S m : Nat) : ByteArray := Dg.B ((Dg.hex S).drop (16 - m))
theorem hex_len (S : Nat) : (Dg.hex S).length = 16 := Dg.hexTo_len S 16
theorem hexTail_zero (S : Nat) : hexTail S 0 = ⟨#[]⟩ := by
  unfold hexTail Dg.B
  rw [List.drop_of_length_le (by rw [hex_len]; omega)]
theorem hexTail_all (S : Nat) : hexTail S 16 = Dg.B (Dg.hex S) := rfl
theorem hexTail_size (S m : Nat) (_h : m ≤ 16) : (hexTail S m).size ≤ 16 := by
  unfold hexTail
  rw [Dg.size_B, List.length_drop, hex_len]; omega
theorem div_succ (S m : Nat) : S / 16 ^ (m + 1) = S / 16 ^ m / 16 := by rw [Nat.pow_succ, Nat.div_div_eq_div_mul]
theorem hexTail_succ (S m : Nat) (h : m < 16) : hexTail S (m + 1) = Dg.B [Dg.hexDigit (S / 16 ^ m % 16)] ++ hexTail S m := by
  apply Dg.L_inj
  have hl : 16 - (m + 1) < (Dg.hex S).length := by rw [hex_len]; omega
  have e : (Dg.hex S)[16 - (m + 1)] = Dg.hexDigit (S / 16 ^ m % 16) := by
    have := Dg.hexTo_get S 16 (16 - (m + 1)) (by omega)
    rw [show 15 - (16 - (m + 1)) = m by omega] at this
    exact Option.some.inj ((List.getElem?_eq_getElem hl).symm.trans this)
  unfold hexTail
  rw [Dg.L_B, List.drop_eq_getElem_cons hl, e, show 16 - (m + 1) + 1 = 16 - m by omega]
  simp [Dg.L, Dg.B, ByteArray.data_append]
theorem hexConst (d : Nat) (h : d < 16) : ByteArray.extract ⟨#[48, 49, 50, 51, 52, 53, 54, 55, 56, 57, 97, 98, 99, 100, 101, 102]⟩ d (d + 1) = Dg.B [Dg.hexDigit d] := by
  apply Dg.L_inj
  rw [Dg.L_extract, Dg.L_B]
  rcases lt16 h with rfl | rfl | rfl | rfl | rfl | rfl | rfl | rfl | rfl | rfl | rfl | rfl | rfl | rfl | rfl | rfl <;> rfl
set_option maxHeartbeats 1000000 in
theorem rsum_any (s : ByteArray) (hs : s.size ≤ 4611686018427387904) (w : World) :
    Calls Tryz.prog 69 #[.string s] w fun e w' => e = .returned (.string (Dg.sumB s)) ∧ w = w' := by
  have h0 := hide (iv_xor s.size (by unfold Dg.M; omega))
  go_enter Tryz.func69, Tryz.ntmps69
  go_wp2
  go_loop [3, 4, 5, 6] (fun a f _ _ => ∃ k st : Nat, 8 * k ≤ s.size + 8 ∧ st < Dg.M ∧ f = .int .i64 ((8 * k : Nat) : Int) ∧ a = .int .u64 (st : Int) ∧ Hid (Dg.run (s.size / 8 + 1 - k) st ((Dg.L s).drop (8 * k)) = Dg.state (Dg.L s))) (fun _ f _ _ => s.size + 8 - (intOf f).toNat)
  case atStart => exact ⟨0, IV ^^^ s.size, by omega, Dg.xor_lt (by unfold IV Dg.M; omega) (by unfold Dg.M; omega), rfl, by rw [h0.out], by unfold Hid Dg.state; rw [Dg.len_L]; rfl⟩
  case round =>
    obtain ⟨k, st, hk, hst, rfl, rfl, HR⟩ := hrel
    by_cases hle : 8 * k ≤ s.size
    · go_wp2_with fail
      go_loop [5, 6] (fun b i => ∃ j : Nat, j ≤ 8 ∧ i = .int .i64 ((8 * k + j : Nat) : Int) ∧ b = .int .u64 (Dg.blkTo ((Dg.L s).drop (8 * k)) j : Int)) (fun _ i => 8 * k + 8 - (intOf i).toNat)
      case atStart => exact ⟨0, by omega, by go_num, rfl⟩
      case round =>
        obtain ⟨j, hj, rfl, rfl⟩ := hrel
        by_cases hlt : j < 8
        · have hb := Dg.blkTo_lt ((Dg.L s).drop (8 * k)) j
          have hb2 : 256 ^ j ≤ 256 ^ 7 := Nat.pow_le_pow_right (by omega) (by omega)
          have hbl : Dg.blkTo ((Dg.L s).drop (8 * k)) j < 256 ^ 7 := by omega
          clear hb hb2
          have hext := hide (blkTo_ext (Dg.L s) (8 * k) j)
          generalize Dg.blkTo ((Dg.L s).drop (8 * k)) j = B at *
          by_cases hin : 8 * k + j < s.size
          · have hg := hide (getD_B s _ hin)
            go_wp2
            go_round
            case rel => exact ⟨j + 1, by omega, by go_num, by rw [hext.out, hg.out, mul_add_byte _ _ hbl]⟩
            case measure => simp [intOf]; omega
          · have hg := hide (getD_out s _ hin)
            go_wp2
            go_round
            case rel => exact ⟨j + 1, by omega, by go_num, by rw [hext.out, hg.out, mul_out]⟩
            case measure => simp [intOf]; omega
        · obtain rfl : j = 8 := by omega
          have hbl := Dg.blk_lt ((Dg.L s).drop (8 * k))
          go_wp2_with fail
          refine (rmix_any _ (st ^^^ Dg.blk ((Dg.L s).drop (8 * k))) (xor_u64 _ _ hst hbl) (Dg.xor_lt hst hbl) _).mono ?_
          rintro e w' ⟨rfl, rfl⟩
          have hR2 : Hid (Dg.run (s.size / 8 + 1 - (k + 1)) (Dg.mix (st ^^^ Dg.blk ((Dg.L s).drop (8 * k)))) ((Dg.L s).drop (8 * (k + 1))) = Dg.state (Dg.L s)) := by
            unfold Hid
            rw [← HR.out, run_drop (s.size / 8 + 1 - k) st (Dg.L s) (8 * k) (by omega)]
            rfl
          have hm := Dg.mix_lt (st ^^^ Dg.blk ((Dg.L s).drop (8 * k)))
          generalize Dg.mix (st ^^^ Dg.blk ((Dg.L s).drop (8 * k))) = st' at *
          go_wp2
          go_round
          case rel => exact ⟨k + 1, st', by omega, hm, by go_num, rfl, hR2⟩
          case measure => simp [intOf]; omega
    · have HS : Hid (st = Dg.state (Dg.L s)) := by
        have := HR.out
        rw [show s.size / 8 + 1 - k = 0 by omega] at this
        exact this
      clear HR
      go_wp2_with fail
      go_loop [3, 7, 8] (fun a v i => ∃ m : Nat, m ≤ 16 ∧ i = .int .i64 m ∧ a = .int .u64 ((st / 16 ^ m : Nat) : Int) ∧ v = .string (hexTail st m)) (fun _ _ i => 16 - (intOf i).toNat)
      case atStart => exact ⟨0, by omega, rfl, by rw [Nat.pow_zero, Nat.div_one], (congrArg Value.string (hexTail_zero st)).symm⟩
      case round =>
        obtain ⟨m, hm, rfl, rfl, rfl⟩ := hrel
        by_cases hlt : m < 16
        · have hq : st / 16 ^ m < Dg.M := Nat.lt_of_le_of_lt (Nat.div_le_self _ _) hst
          have hnext := hide (hexTail_succ st m hlt)
          have hdiv := hide (div_succ st m)
          have hts := hexTail_size st m hm
          generalize hexTail st m = T at *
          generalize st / 16 ^ m = q at *
          unfold Dg.M at hq
          go_wp2
          go_round
          case rel => exact ⟨m + 1, by omega, by go_num, by rw [hdiv.out]; rfl, by rw [hnext.out, hexConst _ (Nat.mod_lt _ (by omega))]⟩
          case measure => simp [intOf]; omega
        · obtain rfl : m = 16 := by omega
          go_wp2
          go_ret
          exact ⟨ret_str (by rw [hexTail_all, HS.out]; rfl), rfl⟩
def DecRel (n q : Nat) (T : List UInt8) : Prop := (q = 0 → T = Lib.decDigits n) ∧ (0 < q → Lib.decDigits q ++ T = Lib.decDigits n)
theorem decRel_start (n : Nat) : DecRel n (n / 10) [UInt8.ofNat (48 + n % 10)] := by
  constructor
  · intro h
    have h1 : n < 10 := by omega
    rw [Lib.decDigits, dif_pos h1, Nat.mod_eq_of_lt h1]
  · intro h
    conv => rhs; rw [Lib.decDigits]
    rw [dif_neg (by omega)]
theorem decRel_next (n q : Nat) (T : List UInt8) (hq : 0 < q) (h : DecRel n q T) : DecRel n (q / 10) (UInt8.ofNat (48 + q % 10) :: T) := by
  have h2 := h.2 hq
  rw [Lib.decDigits] at h2
  constructor
  · intro h3
    have h1 : q < 10 := by omega
    rw [dif_pos h1] at h2
    rw [← h2, Nat.mod_eq_of_lt h1]; rfl
  · intro h3
    rw [dif_neg (by omega)] at h2
    rw [← h2, List.append_assoc]; rfl
theorem decDigits_len (n : Nat) (h : n < Dg.M) : (Lib.decDigits n).length ≤ 20 := by
  rw [← decF_eq 20 n (by unfold Dg.M at h; omega) (by omega)]
  exact Dg.decF_len 20 n
theorem decRel_len (n q : Nat) (T : List UInt8) (hn : n < Dg.M) (h : DecRel n q T) : T.length ≤ 20 := by
  have hl := decDigits_len n hn
  rcases Nat.eq_zero_or_pos q with h0 | h0
  · rw [h.1 h0]; exact hl
  · rw [← h.2 h0, List.length_append] at hl; omega
theorem lt10 {k : Nat} (h : k < 10) : k = 0 ∨ k = 1 ∨ k = 2 ∨ k = 3 ∨ k = 4 ∨ k = 5 ∨ k = 6 ∨ k = 7 ∨ k = 8 ∨ k = 9 := by omega
theorem decConst (d : Nat) (h : d < 10) : ByteArray.extract ⟨#[48, 49, 50, 51, 52, 53, 54, 55, 56, 57]⟩ d (d + 1) = Dg.B [UInt8.ofNat (48 + d)] := by
  apply Dg.L_inj
  rw [Dg.L_extract, Dg.L_B]
  rcases lt10 h with rfl | rfl | rfl | rfl | rfl | rfl | rfl | rfl | rfl | rfl <;> rfl
theorem B_cons (c : UInt8) (T : List UInt8) : Dg.B [c] ++ Dg.B T = Dg.B (c :: T) := by
  apply Dg.L_inj
  simp [Dg.L, Dg.B, ByteArray.data_append]
set_option maxHeartbeats 400000 in
theorem rdigits_any (k : Int) (n : Nat) (hk : k = n) (hn : n < Dg.M) (w : World) :
    Calls Tryz.prog 131 #[.int .u64 k] w fun e w' => e = .returned (.string (decB n)) ∧ w = w' := by
  subst hk
  have hn' : n < 18446744073709551616 := hn
  have hc := hide (decConst (n % 10) (Nat.mod_lt _ (by omega)))
  go_enter Tryz.func131, Tryz.ntmps131
  go_wp2
  go_loop [0, 3] (fun a v => ∃ (q : Nat) (T : List UInt8), q < 18446744073709551616 ∧ a = .int .u64 (q : Int) ∧ v = .string (Dg.B T) ∧ Hid (DecRel n q T)) (fun a _ => (intOf a).toNat)
  case atStart => exact ⟨n / 10, _, by omega, rfl, by rw [hc.out], decRel_start n⟩
  case round =>
    obtain ⟨q, T, hq, rfl, rfl, HR⟩ := hrel
    by_cases h0 : 0 < q
    · have hc2 := hide (decConst (q % 10) (Nat.mod_lt _ (by omega)))
      have hT : (Dg.B T).size ≤ 20 := by rw [Dg.size_B]; exact decRel_len n q T hn HR.out
      have hB := hide (B_cons (UInt8.ofNat (48 + q % 10)) T)
      have hnx := hide (decRel_next n q T h0 HR.out)
      generalize Dg.B T = TT at *
      go_wp2
      go_round
      case rel => exact ⟨q / 10, _, by omega, rfl, by rw [hc2.out, hB.out], hnx.out⟩
      case measure => simp [intOf]; omega
    · obtain rfl : q = 0 := by omega
      go_wp2
      go_ret
      exact ⟨ret_str (by rw [HR.out.1 rfl]; rfl), rfl⟩
set_option maxHeartbeats 400000 in
theorem decimal_any (n : Nat) (hn : n ≤ 9223372036854775807) (w : World) :
    Calls Tryz.prog 99 #[.int .i64 n] w fun e w' => e = .returned (.string (decB n)) ∧ w = w' := by
  go_enter Tryz.func99, Tryz.ntmps99
  go_wp2_with fail
  refine (rdigits_any _ n rfl (by unfold Dg.M; omega) _).mono ?_
  rintro e w' ⟨rfl, rfl⟩
  go_wp2
  go_ret
  exact ⟨rfl, rfl⟩
end Go.Proofs.YtobhpeockinnjaaGreatDoor
/- Appends to slices that the call itself made: bytes and one-cell elements. No conditions. -/
namespace Go.Proofs.YtobhpeockinnjaaGreatDoor
open Go Go.RowKit
/-- A byte slice of the call's own that holds the bytes l. -/
def OwnB (w : World) (B : Nat) (v : Value) (l : List UInt8) : Prop := w.ownsRow B 5 1 v l.length (Lib.byteCells l)
/-- A slice of the call's own whose elements of type e, one cell each, are xs. -/
def OwnV (w : World) (B : Nat) (e : TypeId) (v : Value) (xs : List Value) : Prop := w.ownsRow B e 1 v xs.length xs
theorem OwnV.nil (w : World) (B : Nat) (e : TypeId) : OwnV w B e (.slice none 0 0) [] := World.ownsRow_nil w B e 1
theorem OwnV.below {w w' : World} {B : Nat} {e : TypeId} {v : Value} {xs : List Value} (h : OwnV w B e v xs) (hb : Below w.heap.size w w') : OwnV w' B e v xs := own_below h hb
theorem OwnB.below {w w' : World} {B : Nat} {v : Value} {l : List UInt8} (h : OwnB w B v l) (hb : Below w.heap.size w w') : OwnB w' B v l := own_below h hb
theorem OwnB.form {w : World} {B : Nat} {v : Value} {l : List UInt8} (h : OwnB w B v l) : ∃ A c, v = .slice A l.length c := by
  rcases h.2 with ⟨rfl, h0⟩ | ⟨g, cap, cur, rfl, _⟩
  · exact ⟨none, 0, by rw [h0]⟩
  · exact ⟨_, _, rfl⟩
theorem OwnV.form {w : World} {B : Nat} {e : TypeId} {v : Value} {xs : List Value} (h : OwnV w B e v xs) : ∃ A c, v = .slice A xs.length c := by
  rcases h.2 with ⟨rfl, h0⟩ | ⟨g, cap, cur, rfl, _⟩
  · exact ⟨none, 0, by rw [h0]⟩
  · exact ⟨_, _, rfl⟩
theorem OwnV.alloc {w : World} {B : Nat} {e : TypeId} {v : Value} {xs : List Value} (h : OwnV w B e v xs) (o : Obj) : OwnV (w.alloc o) B e v xs := World.ownsRow.alloc h o
theorem OwnB.toV {w : World} {B : Nat} {v : Value} {l : List UInt8} (h : OwnB w B v l) : OwnV w B 5 v (Lib.byteCells l) := by
  unfold OwnV
  rw [Lib.byteCells_length]
  exact h
theorem OwnV.toB {w : World} {B : Nat} {v : Value} {l : List UInt8} (h : OwnV w B 5 v (Lib.byteCells l)) : OwnB w B v l := by
  unfold OwnV at h
  rw [Lib.byteCells_length] at h
  exact h
theorem byteInfo : (Tryz.prog.info? 5).map (fun i => (i.zero, i.size, i.bytes)) = some (some (.int .u8 0), 1, 1) := by kernel_rfl
theorem strInfo : (Tryz.prog.info? 9).map (fun i => (i.zero, i.size, i.bytes)) = some (some (.string ⟨#[]⟩), 1, 16) := by kernel_rfl
theorem below_own {w w' : World} {B : Nat} {e : TypeId} {v : Value} {n : Nat} {xs : List Value} (h : w.ownsRow B e 1 v n xs) (hg : w.grownBy w' v.ownBlock) (hB : B ≤ w.heap.size) : Below B w w' :=
  (Below.refl B w).grown hg hB fun k hk => (h.lt k hk).1
theorem step_str (w : World) {ops : Array Oper} {rest : List Oper} {o : Oper} {a : Act} {Q : Exit → Act → World → Prop} (hgd : o.guard = none) (sl x : Operand)
    (ho : o.op = .call { callee := .builtin .append, args := #[sl, x], argTypes := #[125, 9] })
    (B : Nat) (v : Value) (l : List UInt8) (hs : a.eval sl = v) (hown : OwnB w B v l) (s : ByteArray) (hx : a.eval x = .string s)
    (hlen : l.length + s.size ≤ 2199023255552) (hB : B ≤ w.heap.size)
    (h : ∀ v' w', OwnB w' B v' (l ++ Dg.L s) → Below B w w' → wpList Tryz.prog ops Q rest (a.put o.dst v') w') : wpList Tryz.prog ops Q (o :: rest) a w := by
  obtain ⟨i, h1, h2, h3, h4⟩ := info_parts byteInfo
  refine Lib.wpList_append_own_string w hgd sl x _ _ ho B 5 i Tryz.underlying125 Tryz.underlying9 h1 h2 h3 h4 v l.length _ hs hown s hx (by unfold maxLen; omega) (by omega) hB fun v' w' hown' hg _ => h v' w' ?_ (below_own hown hg hB)
  unfold OwnB
  rw [List.length_append, Lib.byteCells_append, Dg.len_L]
  exact hown'
theorem step_one (w : World) {ops : Array Oper} {rest : List Oper} {o : Oper} {a : Act} {Q : Exit → Act → World → Prop} (hgd : o.guard = none) (sl x : Operand) (t e : TypeId) (z : Value) (bytes : Nat)
    (ho : o.op = .call { callee := .builtin .append, args := #[sl, x], argTypes := #[t, t] })
    (ht : Tryz.prog.underlying t = some (.slice e)) (hi : (Tryz.prog.info? e).map (fun i => (i.zero, i.size, i.bytes)) = some (some z, 1, bytes)) (hz : z.cells.size = 1)
    (B : Nat) (v : Value) (xs : List Value) (hs : a.eval sl = v) (hown : OwnV w B e v xs) (ad : Addr) (c : Nat) (u : Value) (hx : a.eval x = .slice (some ad) 1 c) (hu : w.cell? ad = some u) (h1 : u.oneCell' = true)
    (hlen : xs.length < 1099511627776) (hby : bytes ≤ 64) (hB : B ≤ w.heap.size)
    (h : ∀ v' w', OwnV w' B e v' (xs ++ [u]) → Below B w w' → wpList Tryz.prog ops Q rest (a.put o.dst v') w') : wpList Tryz.prog ops Q (o :: rest) a w := by
  obtain ⟨i, h2, h3, h4, h5⟩ := info_parts hi
  refine wpList_append_own w hgd sl x t ho B e i z 1 bytes ht h2 h3 h4 h5 hz (by omega) v xs.length xs hs hown ad 1 c [u] hx rfl ?_ ?_ (by unfold maxLen; omega) ?_ hB fun v' w' hown' hg _ => h v' w' ?_ (below_own hown hg hB)
  · intro j u' hj
    rcases j with _ | j
    · obtain rfl : u = u' := by simpa using hj
      have : ad.add 0 = ad := by unfold Addr.add; simp
      rw [this]; exact hu
    · simp at hj
  · intro u' hu'
    obtain rfl : u' = u := by simpa using hu'
    exact h1
  · have h6 : (xs.length + 1) * bytes ≤ 1099511627776 * 64 := Nat.mul_le_mul (by omega) hby
    omega
  · unfold OwnV
    rw [List.length_append]
    exact hown'
/-- One byte, laid by a literal slice of one element, onto bytes of the call's own. -/
theorem step_byte (w0 : World) {ops : Array Oper} {rest : List Oper} {o : Oper} {a : Act} {Q : Exit → Act → World → Prop} (hgd : o.guard = none) (sl x : Operand)
    (ho : o.op = .call { callee := .builtin .append, args := #[sl, x], argTypes := #[125, 125] })
    (b : UInt8) (k : Int) (hk : k = b.toNat) (B : Nat) (v : Value) (l : List UInt8) (hs : a.eval sl = v) (hown : OwnB w0 B v l) (hx : a.eval x = .slice (some ⟨w0.heap.size, 0, none⟩) 1 1)
    (hlen : l.length < 1099511627776) (hB : B ≤ w0.heap.size)
    (h : ∀ v' w', OwnB w' B v' (l ++ [b]) → Below B w0 w' → wpList Tryz.prog ops Q rest (a.put o.dst v') w') : wpList Tryz.prog ops Q (o :: rest) a (w0.alloc (.cells #[.int .u8 k] 5)) := by
  subst hk
  refine step_one _ hgd sl x 125 5 _ _ ho Tryz.underlying125 byteInfo rfl B v _ hs (hown.toV.alloc _) ⟨w0.heap.size, 0, none⟩ 1 (.int .u8 (b.toNat : Int)) hx (by rw [cell_of_row _ _ 0 _ _ (0, 0) (heap_alloc_new _ _)]; rfl) rfl (by rw [Lib.byteCells_length]; exact hlen) (by omega) (by simp; omega) fun v' w' h1 h2 => h v' w' ?_ ?_
  · refine OwnV.toB ?_
    rw [Lib.byteCells_append]
    exact h1
  · exact ((Below.refl _ _).alloc hB _).trans h2
end Go.Proofs.YtobhpeockinnjaaGreatDoor
namespace Go.Proofs.YtobhpeockinnjaaGreatDoor
open Go Go.RowKit
theorem joinedL_le (l : List ByteArray) (k : Nat) : (Dg.joinedL (l.take k)).length ≤ (Dg.joinedL l).length := by
  unfold Dg.joinedL
  conv => rhs; rw [← List.take_append_drop k l, List.map_append, Dg.joined_append, List.length_append]
  omega
def joinB (s : ByteArray) : ByteArray := decB s.size ++ ⟨#[58]⟩ ++ s
theorem joinedL_add (l : List ByteArray) (k : Nat) (hk : k < l.length) (hj : (Dg.joinedL l).length ≤ 1099511627776) : Lib.byteCells (Dg.joinedL (l.take (k + 1))) = Lib.byteCells (Dg.joinedL (l.take k)) ++ Lib.strCells (joinB l[k]) ∧ (Lib.byteCells (Dg.joinedL (l.take k))).length + (joinB l[k]).size ≤ 1099511627776 := by
  have hsz : (Dg.L l[k]).length = l[k].size := Dg.len_L _
  have hle := joinedL_le l (k + 1)
  have e := Dg.joinedL_take l k hk
  have hlen : l[k].size ≤ 9223372036854775807 := by
    rw [e, List.length_append, List.length_append, List.length_cons] at hle
    omega
  have e2 : (joinB l[k]).data.toList = Dg.dec (Dg.L l[k]).length ++ 58 :: Dg.L l[k] := by
    rw [hsz, ← L_decB _ hlen]
    simp [joinB, Dg.L, ByteArray.data_append]
  refine ⟨?_, ?_⟩
  · rw [e, Lib.byteCells_append, Lib.strCells_eq, e2]
  · rw [Lib.byteCells_length, ← Dg.len_L (joinB l[k])]
    unfold Dg.L at *
    rw [e2]
    rw [e, List.length_append] at hle
    omega
set_option maxHeartbeats 1000000 in
theorem list_any (A : Option Addr) (c : Nat) (l : List ByteArray) (w : World) (he : Env w) (hl : l.length ≤ 1099511627776) (hj : (Dg.joinedL l).length ≤ 1099511627776) (hs : ∀ s ∈ l, s.size ≤ 1099511627776) (hr : Strs w w.heap.size A l) :
    Calls Tryz.prog 52 #[.slice A l.length c] w fun e w' => e = .returned (.string (Dg.listB l)) ∧ Below w.heap.size w w' := by
  go_enter Tryz.func52, Tryz.ntmps52
  go_wp2
  go_loopw [5, 8] (fun _ i wr => ∃ k : Nat, k ≤ l.length ∧ i = .int .i64 k ∧ Below w.heap.size w wr ∧ Lib.IsBuilder 130 5 w.heap.size w.heap.size (Lib.byteCells (Dg.joinedL (l.take k))) wr) (fun _ i _ => l.length - (intOf i).toNat)
  case atStart => exact ⟨0, by omega, rfl, (Below.refl _ _).alloc (Nat.le_refl _) _, builder_new _ _ _⟩
  case round =>
    obtain ⟨k, hk, rfl, hb, hB⟩ := hrel
    have hew := he.next hb
    by_cases hlt : k < l.length
    · obtain ⟨b, off, rfl, hbl, hcell⟩ := (hr.below hb).get hlt
      have hsz := hs l[k] (List.getElem_mem hlt)
      have hjk := hide (joinedL_add l k hlt hj)
      have hd := decB_size l[k].size (by omega)
      generalize hx : l[k] = x at *
      have HX := hide hx; clear hx
      go_wp2_with fail
      refine (itoa_any _ x.size rfl (by omega) _ hew).mono ?_
      rintro e w1 ⟨rfl, hb1⟩
      have hB1 := builder_below hB hb1
      have hb2 := hb.trans (hb1.mono hb.size)
      have hz := hb2.size
      go_wp2_with fail
      refine (Tryz.Builder_WriteString _ _ _ (joinB x) _ hB1 (by have := hjk.out.2; omega) hz).mono ?_
      rintro e w2 ⟨rfl, hB2, hb3⟩
      rw [← hjk.out.1] at hB2
      have hb4 := hb2.trans hb3
      go_wp2
      go_roundw
      case rel => exact ⟨k + 1, by omega, by go_num, hb4, Or.inr hB2⟩
      case measure => simp [intOf]; omega
    · obtain rfl : k = l.length := by omega
      rw [List.take_length] at hB
      go_wp2_with fail
      refine (Tryz.Builder_String_any _ _ _ _ hB hb.size).mono ?_
      rintro e w1 ⟨rfl, hb1⟩
      have hb2 := hb.trans hb1
      go_wp2_with fail
      refine (sum_any (Dg.B (Dg.joinedL l)) (by rw [Dg.size_B]; omega) _).mono ?_
      rintro e w2 ⟨rfl, hb3⟩
      have hb4 := hb2.trans (hb3.mono hb2.size)
      go_wp2
      go_ret
      exact ⟨rfl, hb4⟩
end Go.Proofs.YtobhpeockinnjaaGreatDoor
namespace Go.Proofs.YtobhpeockinnjaaGreatDoor
open Go Go.RowKit
theorem joinedL_step (l : List ByteArray) (k : Nat) (hk : k < l.length) (hs : l[k].size ≤ 9223372036854775807) : Dg.joinedL (l.take k) ++ Dg.L (decB l[k].size) ++ [58] ++ Dg.L l[k] = Dg.joinedL (l.take (k + 1)) := by
  rw [Dg.joinedL_take l k hk, L_decB _ hs, Dg.len_L]
  simp
theorem conv_own {P : Program} (src dst : TypeId) {w : World} {B : Nat} {A : Option Addr} {c : Nat} {l : List UInt8} (h : OwnB w B (.slice A l.length c) l) (hs : P.underlying src = some (.slice 5)) (hd : P.underlying dst = some .string) (he : P.underlying 5 = some (.int .u8) := by kernel_rfl) :
    (convert src dst (.slice A l.length c)).run P w = .ok (.string (Dg.B l)) w := by
  rcases h.2 with ⟨hv, h0⟩ | ⟨g, cap, cur, hv, _⟩
  · obtain rfl : l = [] := List.eq_nil_of_length_eq_zero h0
    injection hv with hA hn hc
    subst hA hc
    rw [run_convert_bytes_string (P := P) w src dst 5 none _ 0 hs he hd]
    simp [Conv.bytesToString]
    rfl
  · injection hv with hA hn hc
    subst hA hc
    have hcells := h.cells (g := g) rfl
    refine run_convert_bytes_back (P := P) w src dst 5 ⟨g, 0, none⟩ _ l hs he hd fun j hj => ?_
    refine hcells j _ ?_
    unfold Lib.byteCells
    rw [List.getElem?_map, List.getElem?_eq_getElem hj]
    rfl
set_option maxHeartbeats 1000000 in
theorem joined_any (A : Option Addr) (c : Nat) (l : List ByteArray) (w : World) (hl : l.length ≤ 1048576) (hj : (Dg.joinedL l).length ≤ 1099511627776) (hs : ∀ s ∈ l, s.size ≤ 1048576) (hr : Strs w w.heap.size A l) :
    Calls Tryz.prog 70 #[.slice A l.length c] w fun e w' => e = .returned (.string (Dg.B (Dg.joinedL l))) ∧ Below w.heap.size w w' := by
  obtain ⟨ib, ib1, ib2, ib3, ib4⟩ := info_parts byteInfo
  go_enter Tryz.func70, Tryz.ntmps70
  go_wp2
  go_loop [3, 4] (fun n i => ∃ k m : Nat, k ≤ l.length ∧ i = .int .i64 k ∧ n = .int .i64 m ∧ m ≤ k * 1048600) (fun _ i => l.length - (intOf i).toNat)
  case atStart => exact ⟨0, 0, by omega, rfl, rfl, by omega⟩
  case round =>
    obtain ⟨k, m, hk, rfl, rfl, hm⟩ := hrel
    by_cases hlt : k < l.length
    · obtain ⟨b, off, rfl, hbl, hcell⟩ := hr.get hlt
      have hsz := hs l[k] (List.getElem_mem hlt)
      generalize l[k] = x at *
      go_wp2
      go_round
      case rel => exact ⟨k + 1, m + (x.size + 21), by omega, by go_num, by go_num, by omega⟩
      case measure => simp [intOf]; omega
    · go_wp2_with (at_make; refine wpList_make_own _ rfl _ _ _ rfl w.heap.size 5 ib (.int .u8 0) 1 Tryz.underlying125 ib1 ib2 ib3 _ _ _ m rfl rfl rfl (by rw [ib4]; omega) (by unfold maxLen; omega) (Nat.le_refl _) ?_; intro w1 hown hg)
      have hb : Below w.heap.size w w1 := (Below.refl _ _).grown hg (Nat.le_refl _) (by simp)
      go_loopw [5, 6] (fun v i wr => ∃ k : Nat, k ≤ l.length ∧ i = .int .i64 k ∧ Below w.heap.size w wr ∧ OwnB wr w.heap.size v (Dg.joinedL (l.take k))) (fun _ i _ => l.length - (intOf i).toNat)
      case atStart => exact ⟨0, by omega, rfl, hb, hown⟩
      case round =>
        obtain ⟨k, hk, rfl, hb1, hO⟩ := hrel
        clear hown hg
        have hz1 := hb1.size
        by_cases hlt : k < l.length
        · obtain ⟨b, off, rfl, hbl, hcell⟩ := (hr.below hb1).get hlt
          have hsz := hs l[k] (List.getElem_mem hlt)
          have hst := hide (joinedL_step l k hlt (by omega))
          have hle := joinedL_le l (k + 1)
          rw [← hst.out, List.length_append, List.length_append, List.length_append, Dg.len_L, Dg.len_L] at hle
          have hle2 : (Dg.joinedL (l.take k)).length + (decB l[k].size).size + 1 + l[k].size ≤ 1099511627776 := Nat.le_trans hle hj
          clear hle
          have hd := decB_size l[k].size (by omega)
          generalize l[k] = x at *
          go_wp2_with fail
          refine (decimal_any _ (by omega) _).mono ?_
          rintro e w' ⟨rfl, rfl⟩
          go_wp2_with (first
            | (at_builtin; refine step_str _ rfl (.tmp 29) (.tmp 35) rfl w.heap.size _ _ rfl hO (decB x.size) rfl ?_ hz1 ?_; omega; intro v2 w2 hO2 hb2; have hcell2 : w2.cell? ⟨b, off + k, none⟩ = some (.string x) := (hb2.cell hbl).trans hcell; have hz2 := hb2.size)
            | (at_builtin; refine step_byte w2 rfl (.tmp 37) (.tmp 38) rfl 58 _ rfl w.heap.size _ _ rfl hO2 rfl ?_ ?_ ?_; rw [List.length_append, Dg.len_L]; omega; omega; intro v3 w3 hO3 hb3; have hcell3 : w3.cell? ⟨b, off + k, none⟩ = some (.string x) := (hb3.cell hbl).trans hcell2; have hz3 := hb3.size)
            | (at_builtin; refine step_str _ rfl (.tmp 40) (.tmp 44) rfl w.heap.size _ _ rfl hO3 x rfl ?_ ?_ ?_; rw [List.length_append, List.length_append, Dg.len_L]; simp; omega; omega; intro v4 w4 hO4 hb4; have hz4 := hb4.size)
            | fail)
          rw [hst.out] at hO4
          have hb5 := ((hb1.trans hb2).trans hb3).trans hb4
          go_roundw
          case rel => exact ⟨k + 1, by omega, by go_num, hb5, hO4⟩
          case measure => simp [intOf]; omega
        · obtain rfl : k = l.length := by omega
          rw [List.take_length] at hO
          obtain ⟨A', c', rfl⟩ := hO.form
          have hcv := conv_own (P := Tryz.prog) 125 9 hO (by kernel_rfl) (by kernel_rfl)
          go_wp2
          go_ret
          exact ⟨rfl, hb1⟩
set_option maxHeartbeats 400000 in
theorem rlist_any (A : Option Addr) (c : Nat) (l : List ByteArray) (w : World) (hl : l.length ≤ 1048576) (hj : (Dg.joinedL l).length ≤ 1099511627776) (hs : ∀ s ∈ l, s.size ≤ 1048576) (hr : Strs w w.heap.size A l) :
    Calls Tryz.prog 54 #[.slice A l.length c] w fun e w' => e = .returned (.string (Dg.listB l)) ∧ Below w.heap.size w w' := by
  go_enter Tryz.func54, Tryz.ntmps54
  go_wp2_with fail
  refine (joined_any A c l w hl hj hs hr).mono ?_
  rintro e w' ⟨rfl, hb⟩
  go_wp2_with fail
  refine (rsum_any _ (by rw [Dg.size_B]; omega) _).mono ?_
  rintro e w' ⟨rfl, rfl⟩
  go_wp2
  go_ret
  exact ⟨rfl, hb⟩
theorem below_drewN {B : Nat} {a w : World} (h : Below B a w) (n : Nat) : Below B a (w.drewN n) := ⟨h.os, h.tape, h.output, h.size, h.block⟩
theorem str_ne (a b : ByteArray) : (a.toList == b.toList) = decide (a = b) := by
  rw [toList_L, toList_L, Bool.eq_iff_iff, beq_iff_eq, decide_eq_true_iff]
  exact ⟨Dg.L_inj, fun h => by rw [h]⟩
set_option maxHeartbeats 400000 in
theorem same_any (A A' : Option Addr) (c c' : Nat) (l m : List ByteArray) (w : World) (hl : l.length ≤ 9223372036854775807) (_hl' : m.length ≤ 9223372036854775807) (hr : Strs w w.heap.size A l) (hr' : Strs w w.heap.size A' m) :
    Calls Tryz.prog 48 #[.slice A l.length c, .slice A' m.length c'] w fun e w' => e = .returned (.bool (Dg.same l m)) ∧ Below w.heap.size w w' := by
  by_cases hlen : l.length = m.length
  · have hne : ((l.length : Int) != (m.length : Int)) = false := by rw [bne_eq_false_iff_eq]; omega
    go_enter Tryz.func48, Tryz.ntmps48
    go_wp2
    go_loopw [5] (fun i wr => ∃ k : Nat, k ≤ l.length ∧ i = .int .i64 k ∧ Below w.heap.size w wr ∧ Hid (l.take k = m.take k)) (fun i _ => l.length - (intOf i).toNat)
    case atStart => exact ⟨0, by omega, rfl, Below.refl _ _, rfl⟩
    case round =>
      obtain ⟨k, hk, rfl, hb, hall⟩ := hrel
      by_cases hlt : k < l.length
      · have hlt' : k < m.length := by omega
        obtain ⟨b, off, rfl, hbl, hcell⟩ := (hr.below hb).get hlt
        obtain ⟨b', off', rfl, hbl', hcell'⟩ := (hr'.below hb).get hlt'
        have hts := hide (List.take_succ_eq_append_getElem hlt)
        have hts' := hide (List.take_succ_eq_append_getElem hlt')
        have hg := hide (List.getElem?_eq_getElem hlt)
        have hg' := hide (List.getElem?_eq_getElem hlt')
        generalize l[k] = x at *
        generalize m[k] = y at *
        by_cases hxy : x = y
        · have ht : (x.toList == y.toList) = true := by rw [str_ne]; exact decide_eq_true hxy
          have HXY := hide hxy; clear hxy
          go_wp2
          go_quiet (fail)
          go_wp2
          go_roundw
          case rel => exact ⟨k + 1, by omega, by go_num, below_drewN hb _, by unfold Hid; rw [hts.out, hts'.out, hall.out, HXY.out]⟩
          case measure => simp [intOf]; omega
        · have ht : (x.toList == y.toList) = false := by rw [str_ne]; exact decide_eq_false hxy
          have HXY := hide hxy; clear hxy
          go_wp2
          go_quiet (fail)
          go_wp2
          go_ret
          refine ⟨ret_bool (Dg.same_no _ _ ?_).symm, below_drewN hb _⟩
          intro h
          have h1 := hg.out
          rw [h, hg'.out] at h1
          exact HXY.out (Option.some.inj h1).symm
      · obtain rfl : k = l.length := by omega
        have h1 := hall.out
        rw [List.take_length, List.take_of_length_le (by omega)] at h1
        go_wp2
        go_ret
        exact ⟨ret_bool ((Dg.same_iff _ _).2 h1).symm, hb⟩
  · have hne : ((l.length : Int) != (m.length : Int)) = true := by rw [bne_iff_ne]; omega
    go_enter Tryz.func48, Tryz.ntmps48
    go_wp2
    go_ret
    exact ⟨ret_bool (Dg.same_no l m (fun h => hlen (by rw [h]))).symm, Below.refl _ _⟩
end Go.Proofs.YtobhpeockinnjaaGreatDoor
namespace Go.Proofs.YtobhpeockinnjaaGreatDoor
open Go Go.RowKit
/-! The contracts once more, with an open result and an open number of elements. -/
theorem is_of (s : ByteArray) (r : Bool) (hr : Dg.isB s = r) (hs : s.size ≤ 4611686018427387904) (w : World) :
    Calls Tryz.prog 58 #[.string s] w fun e w' => e = .returned (.bool r) ∧ Below w.heap.size w w' := by
  subst hr; exact is_any s hs w
theorem sum_of (s r : ByteArray) (hr : Dg.sumB s = r) (hs : s.size ≤ 9223372036854775807) (w : World) :
    Calls Tryz.prog 96 #[.string s] w fun e w' => e = .returned (.string r) ∧ Below w.heap.size w w' := by
  subst hr; exact sum_any s hs w
theorem list_of (A : Option Addr) (_n : Int) (c k : Nat) (l : List ByteArray) (hk : l.length = k) (r : ByteArray) (hr : Dg.listB l = r) (w : World) (he : Env w) (hl : l.length ≤ 1099511627776) (hj : (Dg.joinedL l).length ≤ 1099511627776) (hs : ∀ s ∈ l, s.size ≤ 1099511627776) (hS : Strs w w.heap.size A l) :
    Calls Tryz.prog 52 #[.slice A k c] w fun e w' => e = .returned (.string r) ∧ Below w.heap.size w w' := by
  subst hr hk; exact list_any A c l w he hl hj hs hS
theorem Strs.new (w : World) (l : List ByteArray) (cs : Array Value) (T : TypeId) (h : cs.toList = l.map .string) : Strs (w.alloc (.cells cs T)) (w.alloc (.cells cs T)).heap.size (some ⟨w.heap.size, 0, none⟩) l :=
  ⟨fun _ => ⟨w.heap.size, 0, rfl, by simp, fun j s hj => by
    rw [cell_of_row _ _ _ _ _ (0, 0) (heap_alloc_new w _), Nat.zero_add, ← Array.getElem?_toList, h, List.getElem?_map, hj]
    rfl⟩⟩
theorem tl_true {a b : ByteArray} (h : a = b) : (a.toList == b.toList) = true := by rw [str_ne]; exact decide_eq_true h
theorem tl_false {a b : ByteArray} (h : a ≠ b) : (a.toList == b.toList) = false := by rw [str_ne]; exact decide_eq_false h
theorem chain_of (s : ByteArray) (n : Int) (k : Nat) (hk : (min n 1000).toNat = k) (r : ByteArray) (hr : Dg.chainB s k = r) (hs : s.size ≤ 4611686018427387904) (w : World) :
    Calls Tryz.prog 79 #[.string s, .int .i64 n] w fun e w' => e = .returned (.string r) ∧ Below w.heap.size w w' := by
  subst hr hk; exact chain_any s hs n w
theorem bnext {w w1 w2 : World} (h : Below w.heap.size w w1) (h' : Below w1.heap.size w1 w2) : Below w.heap.size w w2 := h.trans (h'.mono h.size)
theorem bnextA {w w1 w2 : World} {o : Obj} (h : Below w.heap.size w w1) (h' : Below (w1.alloc o).heap.size (w1.alloc o) w2) : Below w.heap.size w w2 := bnext (h.alloc h.size o) h'
theorem Env.alloc {w : World} (h : Env w) (o : Obj) : Env (w.alloc o) := h.next ((Below.refl _ _).alloc (Nat.le_refl _) _)
end Go.Proofs.YtobhpeockinnjaaGreatDoor
/- The contracts of layer 1 with an open result, once more, and small forms. -/
namespace Go.Proofs.YtobhpeockinnjaaGreatDoor
open Go Go.RowKit
theorem keepS {w w' : World} {A : Option Addr} {l : List ByteArray} (h : Strs w w.heap.size A l) (hb : Below w.heap.size w w') : Strs w' w'.heap.size A l := (h.below hb).more hb.size
theorem joined_of (A : Option Addr) (c k : Nat) (l : List ByteArray) (hk : l.length = k) (r : ByteArray) (hr : Dg.B (Dg.joinedL l) = r) (w : World) (hl : l.length ≤ 1048576) (hj : (Dg.joinedL l).length ≤ 1099511627776) (hs : ∀ s ∈ l, s.size ≤ 1048576) (hS : Strs w w.heap.size A l) :
    Calls Tryz.prog 70 #[.slice A k c] w fun e w' => e = .returned (.string r) ∧ Below w.heap.size w w' := by
  subst hr hk; exact joined_any A c l w hl hj hs hS
theorem rlist_of (A : Option Addr) (c k : Nat) (l : List ByteArray) (hk : l.length = k) (r : ByteArray) (hr : Dg.listB l = r) (w : World) (hl : l.length ≤ 1048576) (hj : (Dg.joinedL l).length ≤ 1099511627776) (hs : ∀ s ∈ l, s.size ≤ 1048576) (hS : Strs w w.heap.size A l) :
    Calls Tryz.prog 54 #[.slice A k c] w fun e w' => e = .returned (.string r) ∧ Below w.heap.size w w' := by
  subst hr hk; exact rlist_any A c l w hl hj hs hS
theorem same_of (A A' : Option Addr) (c c' : Nat) (l m : List ByteArray) (k k' : Nat) (hk : l.length = k) (hk' : m.length = k') (r : Bool) (hr : Dg.same l m = r) (w : World) (hl : k ≤ 9223372036854775807) (hl' : k' ≤ 9223372036854775807) (hS : Strs w w.heap.size A l) (hS' : Strs w w.heap.size A' m) :
    Calls Tryz.prog 48 #[.slice A k c, .slice A' k' c'] w fun e w' => e = .returned (.bool r) ∧ Below w.heap.size w w' := by
  subst hr hk hk'; exact same_any A A' c c' l m w hl hl' hS hS'
theorem mem_le {l : List ByteArray} {m n : Nat} (h : ∀ s ∈ l, s.size ≤ m) (hmn : m ≤ n) : ∀ s ∈ l, s.size ≤ n := fun s hs => Nat.le_trans (h s hs) hmn
theorem mem1 {a : ByteArray} {n : Nat} (ha : a.size ≤ n) : ∀ s ∈ [a], s.size ≤ n := fun s hs => by rw [List.mem_singleton.1 hs]; exact ha
theorem mem2 {a b : ByteArray} {n : Nat} (ha : a.size ≤ n) (hb : b.size ≤ n) : ∀ s ∈ [a, b], s.size ≤ n := fun s hs => by
  rcases List.mem_cons.1 hs with rfl | hs
  · exact ha
  · rw [List.mem_singleton.1 hs]; exact hb
theorem mem3 {a b c : ByteArray} {n : Nat} (ha : a.size ≤ n) (hb : b.size ≤ n) (hc : c.size ≤ n) : ∀ s ∈ [a, b, c], s.size ≤ n := fun s hs => by
  rcases List.mem_cons.1 hs with rfl | hs
  · exact ha
  · exact mem2 hb hc s hs
theorem joinedL_small (l : List ByteArray) (h1 : l.length ≤ 8) (h : ∀ s ∈ l, s.size ≤ 1073741824) : (Dg.joinedL l).length ≤ 1099511627776 := by
  have h2 := Dg.joinedL_len_le l 1073741824 h
  have : l.length * (1073741824 + 21) ≤ 8 * (1073741824 + 21) := Nat.mul_le_mul_right _ h1
  omega
theorem len1 (a : ByteArray) : [a].length ≤ 8 := by rw [List.length_singleton]; decide
theorem len2 (a b : ByteArray) : [a, b].length ≤ 8 := by rw [List.length_cons, List.length_singleton]; decide
theorem len3 (a b c : ByteArray) : [a, b, c].length ≤ 8 := by rw [List.length_cons, List.length_cons, List.length_singleton]; decide
/-- A list of at most 8 short texts, written out in a new block. -/
theorem list_new (l : List ByteArray) (cs : Array Value) (T : TypeId) (k c : Nat) (hk : l.length = k) (h8 : l.length ≤ 8) (h : ∀ s ∈ l, s.size ≤ 1073741824) (r : ByteArray) (hr : Dg.listB l = r) (w : World) (he : Env w) (hcs : cs.toList = l.map .string) (n : Nat) (hn : w.heap.size = n) :
    Calls Tryz.prog 52 #[.slice (some ⟨n, 0, none⟩) k c] (w.alloc (.cells cs T)) fun e w' => e = .returned (.string r) ∧ Below w.heap.size w w' := by
  subst hn
  exact (list_of _ 0 _ k l hk r hr _ (he.alloc _) (by omega) (joinedL_small _ h8 h) (mem_le h (by decide)) (Strs.new _ _ _ _ hcs)).mono fun e w' ⟨h1, h2⟩ => ⟨h1, bnextA (Below.refl _ _) h2⟩
theorem rlist_new (l : List ByteArray) (cs : Array Value) (T : TypeId) (k c : Nat) (hk : l.length = k) (h8 : l.length ≤ 8) (h : ∀ s ∈ l, s.size ≤ 1048576) (r : ByteArray) (hr : Dg.listB l = r) (w : World) (hcs : cs.toList = l.map .string) (n : Nat) (hn : w.heap.size = n) :
    Calls Tryz.prog 54 #[.slice (some ⟨n, 0, none⟩) k c] (w.alloc (.cells cs T)) fun e w' => e = .returned (.string r) ∧ Below w.heap.size w w' := by
  subst hn
  exact (rlist_of _ _ k l hk r hr _ (by omega) (joinedL_small _ h8 (mem_le h (by decide))) h (Strs.new _ _ _ _ hcs)).mono fun e w' ⟨h1, h2⟩ => ⟨h1, bnextA (Below.refl _ _) h2⟩
theorem joined_new (l : List ByteArray) (cs : Array Value) (T : TypeId) (k c : Nat) (hk : l.length = k) (h8 : l.length ≤ 8) (h : ∀ s ∈ l, s.size ≤ 1048576) (r : ByteArray) (hr : Dg.B (Dg.joinedL l) = r) (w : World) (hcs : cs.toList = l.map .string) (n : Nat) (hn : w.heap.size = n) :
    Calls Tryz.prog 70 #[.slice (some ⟨n, 0, none⟩) k c] (w.alloc (.cells cs T)) fun e w' => e = .returned (.string r) ∧ Below w.heap.size w w' := by
  subst hn
  exact (joined_of _ _ k l hk r hr _ (by omega) (joinedL_small _ h8 (mem_le h (by decide))) h (Strs.new _ _ _ _ hcs)).mono fun e w' ⟨h1, h2⟩ => ⟨h1, bnextA (Below.refl _ _) h2⟩
end Go.Proofs.YtobhpeockinnjaaGreatDoor
/- half, node, Root of package tree and of the reference: one walk each. -/
namespace Go.Proofs.YtobhpeockinnjaaGreatDoor
open Go Go.RowKit Go.Sort
set_option maxHeartbeats 400000 in
theorem half_any (n : Nat) (hn : n ≤ 1152921504606846976) (w : World) :
    Calls Tryz.prog 67 #[.int .i64 n] w fun e w' => e = .returned (.int .i64 (Dg.half n : Nat)) ∧ w = w' := by
  go_enter Tryz.func67, Tryz.ntmps67
  go_wp2
  go_loop [3] (fun v => ∃ k f : Nat, 1 ≤ k ∧ k ≤ n + 1 ∧ n ≤ k + f ∧ v = .int .i64 k ∧ Dg.halfF f k n = Dg.half n) (fun v => n - (intOf v).toNat)
  case atStart => exact ⟨1, n, by omega, by omega, by omega, rfl, rfl⟩
  case round =>
    obtain ⟨k, f, h1, h2, h3, rfl, hf⟩ := hrel
    by_cases hlt : 2 * k < n
    · obtain ⟨f, rfl⟩ : ∃ g, f = g + 1 := ⟨f - 1, by omega⟩
      rw [Dg.halfF, if_pos hlt] at hf
      have h5 : (k : Int) * 2 < (n : Int) := by omega
      have hf' := hide hf; clear hf
      go_wp2
      go_round
      case rel => exact ⟨2 * k, f, by omega, by omega, by omega, by go_num, hf'.out⟩
      case measure => simp [intOf]; omega
    · have hf2 : k = Dg.half n := by
        cases f with
        | zero => exact hf
        | succ f => rw [Dg.halfF, if_neg hlt] at hf; exact hf
      clear hf
      have h5 : ¬ (k : Int) * 2 < (n : Int) := by omega
      go_wp2
      go_ret
      exact ⟨rfl, rfl⟩
set_option maxHeartbeats 400000 in
theorem rhalf_any (n : Nat) (hn : n ≤ 1152921504606846976) (w : World) :
    Calls Tryz.prog 71 #[.int .i64 n] w fun e w' => e = .returned (.int .i64 (Dg.half n : Nat)) ∧ w = w' := by
  go_enter Tryz.func71, Tryz.ntmps71
  go_wp2
  go_loop [3] (fun v => ∃ k f : Nat, 1 ≤ k ∧ k ≤ n + 1 ∧ n ≤ k + f ∧ v = .int .i64 k ∧ Dg.halfF f k n = Dg.half n) (fun v => n - (intOf v).toNat)
  case atStart => exact ⟨1, n, by omega, by omega, by omega, rfl, rfl⟩
  case round =>
    obtain ⟨k, f, h1, h2, h3, rfl, hf⟩ := hrel
    by_cases hlt : 2 * k < n
    · obtain ⟨f, rfl⟩ : ∃ g, f = g + 1 := ⟨f - 1, by omega⟩
      rw [Dg.halfF, if_pos hlt] at hf
      have h5 : 2 * (k : Int) < (n : Int) := by omega
      have hf' := hide hf; clear hf
      go_wp2
      go_round
      case rel => exact ⟨2 * k, f, by omega, by omega, by omega, by go_num, hf'.out⟩
      case measure => simp [intOf]; omega
    · have hf2 : k = Dg.half n := by
        cases f with
        | zero => exact hf
        | succ f => rw [Dg.halfF, if_neg hlt] at hf; exact hf
      clear hf
      have h5 : ¬ 2 * (k : Int) < (n : Int) := by omega
      go_wp2
      go_ret
      exact ⟨rfl, rfl⟩
/-- Where a slice's tail lies. -/
def offA (A : Option Addr) (k c : Nat) : Option Addr := if c = k then A else A.map (·.add k)
theorem addr_add0 (a : Addr) : a.add 0 = a := by unfold Addr.add; rw [if_pos rfl]
theorem Strs.take {w : World} {B : Nat} {A : Option Addr} {l : List ByteArray} (h : Strs w B A l) (k : Nat) : Strs w B A (l.take k) :=
  ⟨fun hl => by
    rw [List.length_take] at hl
    obtain ⟨b, off, e, hb, hc⟩ := h.at_ (by omega)
    refine ⟨b, off, e, hb, fun j s hj => hc j s ?_⟩
    rw [List.getElem?_take] at hj
    split at hj
    · exact hj
    · exact absurd hj (by simp)⟩
theorem addr_off (b off k : Nat) : Addr.add ⟨b, off, none⟩ k = ⟨b, off + k, none⟩ := by
  unfold Addr.add
  by_cases h : k = 0
  · rw [if_pos h, h, Nat.add_zero]
  · rw [if_neg h]
theorem Strs.drop {w : World} {B : Nat} {A : Option Addr} {l : List ByteArray} {c : Nat} (h : Strs w B A l) (hc : l.length ≤ c) (k : Nat) : Strs w B (offA A k c) (l.drop k) :=
  ⟨fun hl => by
    rw [List.length_drop] at hl
    obtain ⟨b, off, rfl, hb, hcell⟩ := h.at_ (by omega)
    refine ⟨b, off + k, ?_, hb, fun j s hj => ?_⟩
    · unfold offA
      rw [if_neg (by omega), Option.map_some, addr_off]
    · rw [List.getElem?_drop] at hj
      rw [Nat.add_assoc]
      exact hcell _ _ hj⟩
theorem elem_str : Tryz.prog.elem 27 = 9 := by kernel_rfl
theorem und_str : Tryz.prog.underlying 27 = some (.slice (Tryz.prog.elem 27)) := by rw [elem_str]; exact Tryz.underlying27
theorem slice_to (A : Option Addr) (n c k : Nat) (h : k ≤ c) (w : World) : (Instr.slice 27 (.slice A n c) none (some (.int .i64 (k : Int))) none).run Tryz.prog w = .ok (.slice A k c) w := by
  rw [run_slice_h w _ A n c und_str .i64 k (by omega) (by omega), elem_str, Tryz.sizeOf9]
  show Result.ok (sliced A 0 (k : Int).toNat c 1) w = _
  unfold sliced
  rw [Int.toNat_natCast, Nat.zero_mul, Nat.sub_zero, Nat.sub_zero]
  have : (if c = 0 then A else A.map (fun x => x.add 0)) = A := by
    split
    · rfl
    · cases A with
      | none => rfl
      | some a => rw [Option.map_some, addr_add0]
  rw [this]
theorem slice_from (A : Option Addr) (n c k : Nat) (h : k ≤ n) (w : World) : (Instr.slice 27 (.slice A n c) (some (.int .i64 (k : Int))) none none).run Tryz.prog w = .ok (.slice (offA A k c) (n - k) (c - k)) w := by
  rw [run_slice_l w _ A n c und_str .i64 k (by omega) (by omega), elem_str, Tryz.sizeOf9]
  show Result.ok (sliced A (k : Int).toNat n c 1) w = _
  unfold sliced offA
  rw [Int.toNat_natCast, Nat.mul_one]
set_option maxHeartbeats 400000 in
theorem node_any (a b : ByteArray) (ha : a.size ≤ 1073741824) (hb : b.size ≤ 1073741824) (w : World) (he : Env w) :
    Calls Tryz.prog 68 #[.string a, .string b] w fun e w' => e = .returned (.string (Dg.nodeB a b)) ∧ Below w.heap.size w w' := by
  go_enter Tryz.func68, Tryz.ntmps68
  have hm := hide (mem3 (a := Dg.sNode) (by decide) ha hb)
  go_wp2_with fail
  refine (list_new [Dg.sNode, a, b] _ _ 3 _ rfl (len3 _ _ _) hm.out (Dg.nodeB a b) rfl w he rfl _ rfl).mono ?_
  rintro e w1 ⟨rfl, hb1⟩
  go_wp2
  go_ret
  exact ⟨rfl, hb1⟩
set_option maxHeartbeats 400000 in
theorem rnode_any (a b : ByteArray) (ha : a.size ≤ 1048576) (hb : b.size ≤ 1048576) (w : World) :
    Calls Tryz.prog 114 #[.string a, .string b] w fun e w' => e = .returned (.string (Dg.nodeB a b)) ∧ Below w.heap.size w w' := by
  go_enter Tryz.func114, Tryz.ntmps114
  have hm := hide (mem3 (a := Dg.sNode) (by decide) ha hb)
  go_wp2_with fail
  refine (rlist_new [Dg.sNode, a, b] _ _ 3 _ rfl (len3 _ _ _) hm.out (Dg.nodeB a b) rfl w rfl _ rfl).mono ?_
  rintro e w1 ⟨rfl, hb1⟩
  go_wp2
  go_ret
  exact ⟨rfl, hb1⟩
theorem rleaf_any (a : ByteArray) (ha : a.size ≤ 1048576) (w : World) :
    Calls Tryz.prog 74 #[.string a] w fun e w' => e = .returned (.string (Dg.leafB a)) ∧ Below w.heap.size w w' := by
  go_enter Tryz.func74, Tryz.ntmps74
  have hm := hide (mem2 (a := Dg.sLeaf) (by decide) ha)
  go_wp2_with fail
  refine (rlist_new [Dg.sLeaf, a] _ _ 2 _ rfl (len2 _ _) hm.out (Dg.leafB a) rfl w rfl _ rfl).mono ?_
  rintro e w1 ⟨rfl, hb1⟩
  go_wp2
  go_ret
  exact ⟨rfl, hb1⟩
theorem rempty_any (w : World) :
    Calls Tryz.prog 113 #[] w fun e w' => e = .returned (.string Dg.emptyB) ∧ Below w.heap.size w w' := by
  go_enter Tryz.func113, Tryz.ntmps113
  go_wp2_with fail
  refine (rlist_new [Dg.sEmpty] _ _ 1 _ rfl (len1 _) (mem1 (by decide)) Dg.emptyB rfl w rfl _ rfl).mono ?_
  rintro e w1 ⟨rfl, hb1⟩
  go_wp2
  go_ret
  exact ⟨rfl, hb1⟩
end Go.Proofs.YtobhpeockinnjaaGreatDoor
/- Root of package tree and of the reference. -/
namespace Go.Proofs.YtobhpeockinnjaaGreatDoor
open Go Go.RowKit Go.Sort
theorem listB_size (l : List ByteArray) : (Dg.listB l).size = 16 := by
  exact Dg.sumB_size (Dg.B (Dg.joinedL l))
theorem root_size (l : List ByteArray) : (Dg.root l).size = 16 := by
  match l with
  | [] => rw [Dg.root_nil]; exact listB_size _
  | [s] => rw [Dg.root_one]; exact listB_size _
  | s :: t :: r => rw [Dg.root_more _ (by simp)]; exact listB_size _
set_option maxRecDepth 100000 in
set_option maxHeartbeats 200000 in
theorem root_of (k : Nat) : ∀ (A : Option Addr) (c : Nat) (l : List ByteArray) (R : ByteArray) (w : World), l.length = k → Dg.root l = R → Env w → k ≤ c → k ≤ 1048576 → (∀ s ∈ l, s.size ≤ 1073741824) → Strs w w.heap.size A l →
    Calls Tryz.prog 33 #[.slice A k c] w fun e w' => e = .returned (.string R) ∧ Below w.heap.size w w' := by
  induction k using Nat.strongRecOn with
  | _ k ih =>
  intro A c l R w hk hR he hc hkb hs hS
  go_enter Tryz.func33, Tryz.ntmps33
  by_cases h0 : k = 0
  · obtain rfl : l = [] := List.length_eq_zero_iff.1 (hk.trans h0)
    subst h0
    subst hR
    go_wp2_with fail
    refine (list_new [Dg.sEmpty] _ _ 1 _ rfl (len1 _) (mem1 (by decide)) (Dg.root []) rfl w he rfl _ rfl).mono ?_
    rintro e w1 ⟨rfl, hb1⟩
    go_wp2
    go_ret
    exact ⟨rfl, hb1⟩
  · by_cases h1 : k = 1
    · obtain ⟨s, rfl⟩ : ∃ s, l = [s] := List.length_eq_one_iff.1 (hk.trans h1)
      subst h1
      subst hR
      obtain ⟨b, off, rfl, hbl, hcell⟩ := hS.get (k := 0) (by simp)
      simp only [List.getElem_cons_zero, Nat.add_zero] at hcell
      have hss := hs s (List.mem_singleton.2 rfl)
      have hm := hide (mem2 (a := Dg.sLeaf) (n := 1073741824) (by decide) hss)
      go_wp2_with fail
      refine (list_new [Dg.sLeaf, s] _ _ 2 _ rfl (len2 _ _) hm.out (Dg.root [s]) rfl w he rfl _ rfl).mono ?_
      rintro e w1 ⟨rfl, hb1⟩
      go_wp2
      go_ret
      exact ⟨rfl, hb1⟩
    · have g1 := Dg.half_pos k
      have g2 := Dg.half_lt k (by omega)
      have hroot := hide (hR.symm.trans (Dg.root_more l (by omega)))
      clear hR
      rw [hk] at hroot
      have i1 := hide (fun (W : World) (hE : Env W) (hST : Strs W W.heap.size A (l.take (Dg.half k))) => ih (Dg.half k) g2 A c (l.take (Dg.half k)) _ W (by rw [List.length_take]; omega) rfl hE (by omega) (by omega) (fun s hs' => hs s (List.mem_of_mem_take hs')) hST)
      have i2 := hide (fun (W : World) (hE : Env W) (hST : Strs W W.heap.size (offA A (Dg.half k) c) (l.drop (Dg.half k))) => ih (k - Dg.half k) (by omega) (offA A (Dg.half k) c) (c - Dg.half k) (l.drop (Dg.half k)) _ W (by rw [List.length_drop, hk]) rfl hE (by omega) (by omega) (fun s hs' => hs s (List.mem_of_mem_drop hs')) hST)
      clear ih
      have z1 := root_size (l.take (Dg.half k))
      have z2 := root_size (l.drop (Dg.half k))
      have hS1 := hS.take (Dg.half k)
      have hS2 := hS.drop (c := c) (by omega) (Dg.half k)
      go_wp2_with fail
      refine (half_any k (by omega) _).mono ?_
      rintro e w1 ⟨rfl, rfl⟩
      generalize Dg.half k = m at *
      generalize hX : Dg.root (l.take m) = X at *
      generalize hY : Dg.root (l.drop m) = Y at *
      clear hX hY hs
      have s1 := slice_to A k c m (by omega)
      have s2 := slice_from A k c m (by omega)
      have q1 := fun (d : Nat) (os : Array Obj) => Calls.regrown_of (i1.out (grow (redrawn w d) os) (he.next (below_regrown w d os)) (keepS hS1 (below_regrown w d os)))
      have q2 := fun (d : Nat) (os : Array Obj) => Calls.regrown_of (i2.out (grow (redrawn w d) os) (he.next (below_regrown w d os)) (keepS hS2 (below_regrown w d os)))
      have q3 := fun (d : Nat) (os : Array Obj) => Calls.regrown_of (node_any X Y (by omega) (by omega) (grow (redrawn w d) os) (he.next (below_regrown w d os)))
      have Q1 := hide q1; have Q2 := hide q2; have Q3 := hide q3; clear q1 q2 q3
      go_wp2_with fail
      refine wp_region_quiet_below (by kernel_rfl) (by decide +kernel) ?_
      repeat (first | go_big_quiet_step (fail) | quiet_step (fail))
      (first | go_big_quiet_step (exact Q1.out _ _) | quiet_step (exact Q1.out _ _))
      repeat (first | go_big_quiet_step (fail) | quiet_step (fail))
      (first | go_big_quiet_step (exact Q2.out _ _) | quiet_step (exact Q2.out _ _))
      repeat (first | go_big_quiet_step (fail) | quiet_step (fail))
      (first | go_big_quiet_step (exact Q3.out _ _) | quiet_step (exact Q3.out _ _))
      repeat (first | go_big_quiet_step (fail) | quiet_step (fail))
      refine wpQuiet_nil ?_
      intro _ hw'
      obtain ⟨⟨dq, osq⟩, hw''⟩ := hw'
      subst hw''
      go_wp2
      go_ret
      exact ⟨ret_str hroot.out.symm, below_regrown w dq osq⟩
set_option maxRecDepth 100000 in
set_option maxHeartbeats 200000 in
theorem rroot_of (k : Nat) : ∀ (A : Option Addr) (c : Nat) (l : List ByteArray) (R : ByteArray) (w : World), l.length = k → Dg.root l = R → k ≤ c → k ≤ 1048576 → (∀ s ∈ l, s.size ≤ 1048576) → Strs w w.heap.size A l →
    Calls Tryz.prog 72 #[.slice A k c] w fun e w' => e = .returned (.string R) ∧ Below w.heap.size w w' := by
  induction k using Nat.strongRecOn with
  | _ k ih =>
  intro A c l R w hk hR hc hkb hs hS
  go_enter Tryz.func72, Tryz.ntmps72
  by_cases h0 : k = 0
  · obtain rfl : l = [] := List.length_eq_zero_iff.1 (hk.trans h0)
    subst h0
    subst hR
    go_wp2_with fail
    refine (rempty_any w).mono ?_
    rintro e w1 ⟨rfl, hb1⟩
    go_wp2
    go_ret
    exact ⟨rfl, hb1⟩
  · by_cases h1 : k = 1
    · obtain ⟨s, rfl⟩ : ∃ s, l = [s] := List.length_eq_one_iff.1 (hk.trans h1)
      subst h1
      subst hR
      obtain ⟨b, off, rfl, hbl, hcell⟩ := hS.get (k := 0) (by simp)
      simp only [List.getElem_cons_zero, Nat.add_zero] at hcell
      have hss := hs s (List.mem_singleton.2 rfl)
      go_wp2_with fail
      refine (rleaf_any s hss w).mono ?_
      rintro e w1 ⟨rfl, hb1⟩
      go_wp2
      go_ret
      exact ⟨rfl, hb1⟩
    · have g1 := Dg.half_pos k
      have g2 := Dg.half_lt k (by omega)
      have hroot := hide (hR.symm.trans (Dg.root_more l (by omega)))
      clear hR
      rw [hk] at hroot
      have i1 := hide (fun (W : World) (hST : Strs W W.heap.size A (l.take (Dg.half k))) => ih (Dg.half k) g2 A c (l.take (Dg.half k)) _ W (by rw [List.length_take]; omega) rfl (by omega) (by omega) (fun s hs' => hs s (List.mem_of_mem_take hs')) hST)
      have i2 := hide (fun (W : World) (hST : Strs W W.heap.size (offA A (Dg.half k) c) (l.drop (Dg.half k))) => ih (k - Dg.half k) (by omega) (offA A (Dg.half k) c) (c - Dg.half k) (l.drop (Dg.half k)) _ W (by rw [List.length_drop, hk]) rfl (by omega) (by omega) (fun s hs' => hs s (List.mem_of_mem_drop hs')) hST)
      clear ih
      have z1 := root_size (l.take (Dg.half k))
      have z2 := root_size (l.drop (Dg.half k))
      have hS1 := hS.take (Dg.half k)
      have hS2 := hS.drop (c := c) (by omega) (Dg.half k)
      go_wp2_with fail
      refine (rhalf_any k (by omega) _).mono ?_
      rintro e w1 ⟨rfl, rfl⟩
      generalize Dg.half k = m at *
      generalize hX : Dg.root (l.take m) = X at *
      generalize hY : Dg.root (l.drop m) = Y at *
      clear hX hY hs
      have s1 := slice_to A k c m (by omega)
      have s2 := slice_from A k c m (by omega)
      have q1 := fun (d : Nat) (os : Array Obj) => Calls.regrown_of (i1.out (grow (redrawn w d) os) (keepS hS1 (below_regrown w d os)))
      have q2 := fun (d : Nat) (os : Array Obj) => Calls.regrown_of (i2.out (grow (redrawn w d) os) (keepS hS2 (below_regrown w d os)))
      have q3 := fun (d : Nat) (os : Array Obj) => Calls.regrown_of (rnode_any X Y (by omega) (by omega) (grow (redrawn w d) os))
      have Q1 := hide q1; have Q2 := hide q2; have Q3 := hide q3; clear q1 q2 q3
      go_wp2_with fail
      refine wp_region_quiet_below (by kernel_rfl) (by decide +kernel) ?_
      repeat (first | go_big_quiet_step (fail) | quiet_step (fail))
      (first | go_big_quiet_step (exact Q1.out _ _) | quiet_step (exact Q1.out _ _))
      repeat (first | go_big_quiet_step (fail) | quiet_step (fail))
      (first | go_big_quiet_step (exact Q2.out _ _) | quiet_step (exact Q2.out _ _))
      repeat (first | go_big_quiet_step (fail) | quiet_step (fail))
      (first | go_big_quiet_step (exact Q3.out _ _) | quiet_step (exact Q3.out _ _))
      repeat (first | go_big_quiet_step (fail) | quiet_step (fail))
      refine wpQuiet_nil ?_
      intro _ hw'
      obtain ⟨⟨dq, osq⟩, hw''⟩ := hw'
      subst hw''
      go_wp2
      go_ret
      exact ⟨ret_str hroot.out.symm, below_regrown w dq osq⟩
end Go.Proofs.YtobhpeockinnjaaGreatDoor
/- length of the reference: how long a path is. -/
namespace Go.Proofs.YtobhpeockinnjaaGreatDoor
open Go Go.RowKit Go.Sort
theorem length_le (n i : Nat) : Dg.length n i ≤ n := by
  unfold Dg.length
  suffices h : ∀ f n i, Dg.lengthF f n i ≤ f from h n n i
  intro f
  induction f with
  | zero => intro n i; exact Nat.le_refl _
  | succ f ih =>
    intro n i
    rw [Dg.lengthF]
    have h1 := ih (Dg.half n) i
    have h2 := ih (n - Dg.half n) (i - Dg.half n)
    split
    · omega
    · split <;> omega
set_option maxHeartbeats 400000 in
theorem rlength_any (n : Nat) : ∀ (i : Nat) (r : Nat) (w : World), Dg.length n i = r → 1 ≤ n → i < n → n ≤ 1048576 →
    Calls Tryz.prog 93 #[.int .i64 n, .int .i64 i] w fun e w' => e = .returned (.int .i64 r) ∧ w = w' := by
  induction n using Nat.strongRecOn with
  | _ n ih =>
  intro i r w hr h1 hi hn
  go_enter Tryz.func93, Tryz.ntmps93
  by_cases hone : n = 1
  · subst hone
    rw [Dg.length_one _ _ (Nat.le_refl _)] at hr
    subst hr
    go_wp2
    go_ret
    exact ⟨rfl, rfl⟩
  · have g1 := Dg.half_pos n
    have g2 := Dg.half_lt n (by omega)
    have pf := hide (fun h => Dg.length_fst n i (by omega) h)
    have ps := hide (fun h => Dg.length_snd n i (by omega) h)
    have l1 := length_le (Dg.half n) i
    have l2 := length_le (n - Dg.half n) (i - Dg.half n)
    have i1 := hide (fun (W : World) (h : i < Dg.half n) => ih (Dg.half n) g2 i _ W rfl g1 h (by omega))
    have g4 : 1 ≤ n - Dg.half n := by omega
    have i2 := hide (fun (W : World) (h : i - Dg.half n < n - Dg.half n) => ih (n - Dg.half n) (by omega) (i - Dg.half n) _ W rfl g4 h (by omega))
    clear ih
    have HR := hide hr; clear hr
    go_wp2_with fail
    refine (rhalf_any n (by omega) _).mono ?_
    rintro e w1 ⟨rfl, rfl⟩
    generalize Dg.half n = m at *
    generalize Dg.length m i = r1 at *
    generalize Dg.length (n - m) (i - m) = r2 at *
    by_cases him : i < m
    · have hrr := HR.out
      rw [pf.out him] at hrr
      subst hrr
      go_wp2_with fail
      refine (i1.out _ him).mono ?_
      rintro e w1 ⟨rfl, rfl⟩
      go_wp2
      go_ret
      exact ⟨ret_int (by go_num), rfl⟩
    · have hrr := HR.out
      rw [ps.out him] at hrr
      subst hrr
      have c1 : (n : Int) - (m : Int) = ((n - m : Nat) : Int) := by omega
      have c2 : (i : Int) - (m : Int) = ((i - m : Nat) : Int) := by omega
      go_wp2_with fail
      refine (i2.out _ (by omega)).mono ?_
      rintro e w1 ⟨rfl, rfl⟩
      go_wp2
      go_ret
      exact ⟨ret_int (by go_num), rfl⟩
end Go.Proofs.YtobhpeockinnjaaGreatDoor
/- up and digests of the reference. -/
namespace Go.Proofs.YtobhpeockinnjaaGreatDoor
open Go Go.RowKit Go.Sort
theorem rev_tail (p : List ByteArray) : p.reverse.tail = (p.take (p.length - 1)).reverse := by
  rw [List.tail_reverse, List.dropLast_eq_take]
theorem rev_head (p : List ByteArray) (h : p.length - 1 < p.length) : p.reverse.headD ⟨#[]⟩ = p[p.length - 1] := by
  rw [List.headD_eq_head?_getD, List.head?_reverse, List.getLast?_eq_getElem?, List.getElem?_eq_getElem h]
  rfl
theorem up_size (n : Nat) : ∀ (i : Nat) (d : ByteArray) (r : List ByteArray), d.size ≤ 1048576 → (Dg.up n i d r).size ≤ 1048576 := by
  induction n using Nat.strongRecOn with
  | _ n ih =>
  intro i d r hd
  by_cases h1 : n ≤ 1
  · rw [Dg.up_one _ _ _ _ h1]; exact hd
  · by_cases hi : i < Dg.half n
    · rw [Dg.up_fst _ _ _ _ (by omega) hi, Dg.nodeB, listB_size]; decide
    · rw [Dg.up_snd _ _ _ _ (by omega) hi, Dg.nodeB, listB_size]; decide
set_option maxHeartbeats 1000000 in
theorem rup_any (n : Nat) : ∀ (i : Nat) (A : Option Addr) (c k : Nat) (d : ByteArray) (p : List ByteArray) (R : ByteArray) (w : World), p.length = k → Dg.length n i = k → Dg.up n i d p.reverse = R → 1 ≤ n → i < n → n ≤ 1048576 → k ≤ c →
    d.size ≤ 1048576 → (∀ s ∈ p, s.size ≤ 1048576) → Strs w w.heap.size A p →
    Calls Tryz.prog 73 #[.int .i64 n, .int .i64 i, .string d, .slice A k c] w fun e w' => e = .returned (.string R) ∧ Below w.heap.size w w' := by
  induction n using Nat.strongRecOn with
  | _ n ih =>
  intro i A c k d p R w hpk hlk hR h1 hi hn hc hd hs hS
  go_enter Tryz.func73, Tryz.ntmps73
  by_cases hone : n = 1
  · subst hone
    rw [Dg.up_one _ _ _ _ (Nat.le_refl _)] at hR
    subst hR
    go_wp2
    go_ret
    exact ⟨rfl, Below.refl _ _⟩
  · have g1 := Dg.half_pos n
    have g2 := Dg.half_lt n (by omega)
    have pf := hide (fun h => (Dg.length_fst n i (by omega) h).symm.trans hlk)
    have ps := hide (fun h => (Dg.length_snd n i (by omega) h).symm.trans hlk)
    have uf := hide (fun h => hR.symm.trans (Dg.up_fst n i d p.reverse (by omega) h))
    have us := hide (fun h => hR.symm.trans (Dg.up_snd n i d p.reverse (by omega) h))
    clear hR
    have hk1 : 1 ≤ k := by
      by_cases him : i < Dg.half n
      · have := pf.out him; omega
      · have := ps.out him; omega
    have hkn : k ≤ n := hlk ▸ length_le n i
    clear hlk
    subst hpk
    rw [rev_tail, rev_head p (by omega)] at uf us
    have hlast := hs p[p.length - 1] (List.getElem_mem (by omega))
    have i1 := hide (fun (W : World) (h : i < Dg.half n) (hST : Strs W W.heap.size A (p.take (p.length - 1))) => ih (Dg.half n) g2 i A c (p.length - 1) d (p.take (p.length - 1)) _ W (by rw [List.length_take]; omega) (by have := pf.out h; omega) rfl g1 h (by omega) (by omega) hd (fun s h => hs s (List.mem_of_mem_take h)) hST)
    have g4 : 1 ≤ n - Dg.half n := by omega
    have i2 := hide (fun (W : World) (h : ¬ i < Dg.half n) (hST : Strs W W.heap.size A (p.take (p.length - 1))) => ih (n - Dg.half n) (by omega) (i - Dg.half n) A c (p.length - 1) d (p.take (p.length - 1)) _ W (by rw [List.length_take]; omega) (by have := ps.out h; omega) rfl g4 (by omega) (by omega) (by omega) hd (fun s h => hs s (List.mem_of_mem_take h)) hST)
    clear ih hs
    have z1 := up_size (Dg.half n) i d (p.take (p.length - 1)).reverse hd
    have z2 := up_size (n - Dg.half n) (i - Dg.half n) d (p.take (p.length - 1)).reverse hd
    have hS1 := hS.take (p.length - 1)
    obtain ⟨b, off, rfl, hbl, hcell⟩ := hS.get (k := p.length - 1) (by omega)
    go_wp2_with fail
    refine (rhalf_any n (by omega) _).mono ?_
    rintro e w1 ⟨rfl, rfl⟩
    generalize Dg.half n = m at *
    generalize p.take (p.length - 1) = q at *
    generalize hX : Dg.up m i d q.reverse = X at *
    generalize hY : Dg.up (n - m) (i - m) d q.reverse = Y at *
    clear hX hY
    generalize p[p.length - 1] = last at *
    clear hS
    generalize p.length = k at *
    obtain ⟨j, rfl⟩ : ∃ j, k = j + 1 := ⟨k - 1, by omega⟩
    rw [Nat.add_sub_cancel] at hcell i1 i2
    have s1 := slice_to (some ⟨b, off, none⟩) (j + 1) c j (by omega)
    by_cases him : i < m
    · have hr := hide (uf.out him); clear uf us
      go_wp2_with fail
      refine (i1.out _ him hS1).mono ?_
      rintro e w1 ⟨rfl, hb1⟩
      go_wp2_with fail
      refine (rnode_any X last z1 hlast _).mono ?_
      rintro e w2 ⟨rfl, hb2⟩
      go_wp2
      go_ret
      exact ⟨ret_str hr.out.symm, bnext hb1 hb2⟩
    · have hr := hide (us.out him); clear uf us
      have c1 : (n : Int) - (m : Int) = ((n - m : Nat) : Int) := by omega
      have c2 : (i : Int) - (m : Int) = ((i - m : Nat) : Int) := by omega
      go_wp2_with fail
      refine (i2.out _ him hS1).mono ?_
      rintro e w1 ⟨rfl, hb1⟩
      go_wp2_with fail
      refine (rnode_any last Y hlast z2 _).mono ?_
      rintro e w2 ⟨rfl, hb2⟩
      go_wp2
      go_ret
      exact ⟨ret_str hr.out.symm, bnext hb1 hb2⟩
end Go.Proofs.YtobhpeockinnjaaGreatDoor
/- digests of the reference. -/
namespace Go.Proofs.YtobhpeockinnjaaGreatDoor
open Go Go.RowKit Go.Sort
def allDig (l : List ByteArray) : Bool := l.all Dg.isB
theorem allDig_no (l : List ByteArray) (x : ByteArray) (h : x ∈ l) (hx : Dg.isB x = false) : allDig l = false := by
  unfold allDig
  rw [List.all_eq_false]
  exact ⟨x, h, by rw [hx]; decide⟩
theorem allDig_yes (l : List ByteArray) (h : ∀ x ∈ l, Dg.isB x = true) : allDig l = true := List.all_eq_true.2 h
theorem ris_of (s : ByteArray) (r : Bool) (hr : Dg.isB s = r) (hs : s.size ≤ 4611686018427387904) (w : World) :
    Calls Tryz.prog 59 #[.string s] w fun e w' => e = .returned (.bool r) ∧ Below w.heap.size w w' := by
  subst hr
  exact (ris_any s hs w).mono fun e w' ⟨h1, h2⟩ => ⟨h1, by subst h2; exact Below.refl _ _⟩
set_option maxHeartbeats 400000 in
theorem rdigests_any (A : Option Addr) (c n : Nat) (l : List ByteArray) (R : Bool) (hR : allDig l = R) (w : World) (hl : l.length = n) (hn : n ≤ 1099511627776) (hs : ∀ s ∈ l, s.size ≤ 4611686018427387904) (hr : Strs w w.heap.size A l) :
    Calls Tryz.prog 94 #[.slice A n c] w fun e w' => e = .returned (.bool R) ∧ Below w.heap.size w w' := by
  subst hl
  have HR := hide hR; clear hR
  go_enter Tryz.func94, Tryz.ntmps94
  go_wp2
  go_loopw [3] (fun i wr => ∃ k : Nat, k ≤ l.length ∧ i = .int .i64 k ∧ Below w.heap.size w wr ∧ Hid (∀ s ∈ l.take k, Dg.isB s = true)) (fun i _ => l.length - (intOf i).toNat)
  case atStart => exact ⟨0, by omega, rfl, Below.refl _ _, by unfold Hid; simp⟩
  case round =>
    obtain ⟨k, hk, rfl, hb, hall⟩ := hrel
    by_cases hlt : k < l.length
    · obtain ⟨b, off, rfl, hbl, hcell⟩ := (hr.below hb).get hlt
      have hsz := hs l[k] (List.getElem_mem hlt)
      have hts := hide (List.take_succ_eq_append_getElem hlt)
      have hm := hide (List.getElem_mem hlt)
      generalize l[k] = x at *
      go_wp2_with fail
      cases hx : Dg.isB x with
      | true =>
        refine (ris_of x true hx hsz _).mono ?_
        rintro e w1 ⟨rfl, hb1⟩
        have hb2 := bnext hb hb1
        have hx' := hide hx; clear hx
        go_wp2
        go_roundw
        case rel =>
          refine ⟨k + 1, by omega, by go_num, hb2, ?_⟩
          unfold Hid
          rw [hts.out]
          intro s hs'
          rcases List.mem_append.1 hs' with h | h
          · exact hall.out s h
          · obtain rfl : s = x := by simpa using h
            exact hx'.out
        case measure => simp [intOf]; omega
      | false =>
        refine (ris_of x false hx hsz _).mono ?_
        rintro e w1 ⟨rfl, hb1⟩
        have hb2 := bnext hb hb1
        have hx' := hide hx; clear hx
        go_wp2
        go_ret
        exact ⟨ret_bool ((allDig_no l x hm.out hx'.out).symm.trans HR.out), hb2⟩
    · obtain rfl : k = l.length := by omega
      go_wp2
      go_ret
      have h := hall.out
      rw [List.take_length] at h
      exact ⟨ret_bool ((allDig_yes l h).symm.trans HR.out), hb⟩
end Go.Proofs.YtobhpeockinnjaaGreatDoor
/- Slices of strings that the call itself made: appended to, reversed, read. -/
namespace Go.Proofs.YtobhpeockinnjaaGreatDoor
open Go Go.RowKit Go.Sort
theorem below_setC {B : Nat} {a : World} (b : Nat) (hb : B ≤ b) : ∀ (vs : List Value) (o : Nat) {w : World}, Below B a w → Below B a (w.setCells b o vs)
  | [], _, _, h => h
  | v :: r, o, _, h => below_setC b hb r (o + 1) (h.setCell (p := ⟨b, o, none⟩) hb v)
def OwnS (w : World) (B : Nat) (v : Value) (l : List ByteArray) : Prop := OwnV w B 9 v (l.map .string)
theorem OwnS.nil (w : World) (B : Nat) : OwnS w B (.slice none 0 0) [] := OwnV.nil _ _ _
theorem OwnS.below {w w' : World} {B : Nat} {v : Value} {l : List ByteArray} (h : OwnS w B v l) (hb : Below w.heap.size w w') : OwnS w' B v l := OwnV.below h hb
theorem OwnS.cases {w : World} {B : Nat} {v : Value} {l : List ByteArray} (h : OwnS w B v l) : (v = .slice none 0 0 ∧ l = []) ∨
    ∃ g cap, v = .slice (some ⟨g, 0, none⟩) l.length cap ∧ B ≤ g ∧ g < w.heap.size ∧ l.length ≤ cap ∧ (∀ j (s : ByteArray), l[j]? = some s → w.cell? ⟨g, j, none⟩ = some (.string s)) ∧ (∀ j, w.frozen? ⟨g, j, none⟩ = false) := by
  obtain ⟨hl, h⟩ := h
  rw [List.length_map] at h hl
  rcases h with ⟨rfl, h0⟩ | ⟨g, cap, cur, rfl, hB, hg, hc, _, hsz, hx⟩
  · exact Or.inl ⟨rfl, List.length_eq_zero_iff.1 h0⟩
  · refine Or.inr ⟨g, cap, rfl, hB, lt_of_block hg, hc, fun j s hj => ?_, fun j => frozen_of_row _ _ _ _ _ hg⟩
    rw [cell_of_row _ _ _ _ _ (0, 0) hg, ← Array.getElem?_toList]
    have h1 : (cur.toList.take (l.length * 1))[j]? = some (.string s) := by rw [hx, List.getElem?_map, hj]; rfl
    rw [List.getElem?_take] at h1
    split at h1
    · exact h1
    · exact absurd h1 (by simp)
theorem OwnS.strs {w : World} {B : Nat} {v : Value} {l : List ByteArray} (h : OwnS w B v l) : ∃ A c, v = .slice A l.length c ∧ l.length ≤ c ∧ Strs w w.heap.size A l := by
  rcases h.cases with ⟨rfl, rfl⟩ | ⟨g, cap, rfl, _, hg, hc, hcell, _⟩
  · exact ⟨none, 0, rfl, by simp, Strs.nil _ _ _⟩
  · exact ⟨_, cap, rfl, hc, ⟨fun _ => ⟨g, 0, rfl, hg, fun j s hj => by rw [Nat.zero_add]; exact hcell j s hj⟩⟩⟩
theorem strsOf_getD (l : List ByteArray) : (Lib.strsOf (fun i => l.getD i ByteArray.empty) l.length).reverse.map encStr = l.reverse.map Value.string := by
  -- for function 81
  rw [List.map_reverse, List.map_reverse]
  refine congrArg List.reverse ?_
  unfold Lib.strsOf
  rw [List.map_map]
  apply List.ext_getElem?
  intro j
  rw [List.getElem?_map, List.getElem?_map]
  by_cases hj : j < l.length
  · rw [List.getElem?_range hj, List.getElem?_eq_getElem hj]
    show some (Value.string ⟨((l.getD j ByteArray.empty).data.toList).toArray⟩) = some (Value.string l[j])
    rw [List.getD_eq_getElem?_getD, List.getElem?_eq_getElem hj]
    rfl
  · rw [List.getElem?_eq_none (by rw [List.length_range]; omega), List.getElem?_eq_none (by omega)]
    rfl
theorem reverse_any (B : Nat) (v : Value) (l : List ByteArray) (w : World) (h : OwnS w B v l) (hB : B ≤ w.heap.size) (hl : l.length ≤ 1099511627776) :
    Calls Tryz.prog 81 #[v] w fun e w' => e = .returned (.tuple #[]) ∧ (∃ A c, v = .slice A l.length c ∧ l.length ≤ c ∧ Strs w' w'.heap.size A l.reverse) ∧ Below B w w' := by
  rcases h.cases with ⟨rfl, rfl⟩ | ⟨g, cap, rfl, hBg, hg, hc, hcell, hfr⟩
  · refine (Tryz.slices_Reverse_string_empty none 0 w).mono ?_
    rintro e w' ⟨rfl, rfl⟩
    exact ⟨rfl, ⟨none, 0, rfl, by simp, Strs.nil _ _ _⟩, Below.refl _ _⟩
  · have hcc : ∀ i, i < l.length → w.cell? ⟨g, 0 + i, none⟩ = some (.string (l.getD i ByteArray.empty)) := fun i hi => by
      rw [Nat.zero_add, hcell i l[i] (List.getElem?_eq_getElem hi), List.getD_eq_getElem?_getD, List.getElem?_eq_getElem hi]; rfl
    refine (Tryz.slices_Reverse_string_cells g 0 l.length cap (fun i => l.getD i ByteArray.empty) w (by omega) hcc (fun j _ => hfr _)).mono ?_
    rintro e w' ⟨rfl, q, rfl⟩
    rw [strsOf_getD]
    have hsz : ((w.drewN q).setCells g 0 (l.reverse.map Value.string)).heap.size ≥ w.heap.size := (below_setC (B := B) g hBg _ 0 (below_drewN (Below.refl B w) q)).size
    refine ⟨rfl, ⟨_, cap, rfl, hc, ⟨fun _ => ⟨g, 0, rfl, by omega, fun j s hj => ?_⟩⟩⟩, below_setC g hBg _ 0 (below_drewN (Below.refl B w) q)⟩
    have hj' : j < (l.reverse.map Value.string).length := by
      rw [List.length_map]; exact (List.getElem?_eq_some_iff.1 hj).1
    rw [World.cell?_setCells_in g _ 0 (w.drewN q) (fun i hi => by
      have hi' : i < l.length := by simpa using hi
      show (w.cell? _).isSome = true
      rw [hcc i hi']; rfl) j hj']
    have h2 : (l.reverse.map Value.string)[j]? = some (.string s) := by rw [List.getElem?_map, hj]; rfl
    rw [List.getElem?_eq_getElem hj'] at h2
    exact h2
/-- One string, laid by a literal slice of one element, onto strings of the call's own. -/
theorem step_s (w0 : World) {ops : Array Oper} {rest : List Oper} {o : Oper} {a : Act} {Q : Exit → Act → World → Prop} (hgd : o.guard = none) (sl x : Operand)
    (ho : o.op = .call { callee := .builtin .append, args := #[sl, x], argTypes := #[27, 27] })
    (s : ByteArray) (B : Nat) (v : Value) (l : List ByteArray) (hs : a.eval sl = v) (hown : OwnS w0 B v l) (hx : a.eval x = .slice (some ⟨w0.heap.size, 0, none⟩) 1 1)
    (hlen : l.length < 1099511627776) (hB : B ≤ w0.heap.size)
    (h : ∀ v' w', OwnS w' B v' (l ++ [s]) → Below B w0 w' → wpList Tryz.prog ops Q rest (a.put o.dst v') w') : wpList Tryz.prog ops Q (o :: rest) a (w0.alloc (.cells #[.string s] 9)) := by
  refine step_one _ hgd sl x 27 9 _ _ ho Tryz.underlying27 strInfo rfl B v _ hs (OwnV.alloc hown _) ⟨w0.heap.size, 0, none⟩ 1 (.string s) hx (by rw [cell_of_row _ _ 0 _ _ (0, 0) (heap_alloc_new _ _)]; rfl) rfl (by rw [List.length_map]; exact hlen) (by omega) (by simp; omega) fun v' w' h1 h2 => h v' w' ?_ ?_
  · unfold OwnS
    rw [List.map_append]
    exact h1
  · exact ((Below.refl _ _).alloc hB _).trans h2
end Go.Proofs.YtobhpeockinnjaaGreatDoor
/- Path of package tree. -/
namespace Go.Proofs.YtobhpeockinnjaaGreatDoor
open Go Go.RowKit Go.Sort
def lenV : Value → Nat
  | .slice _ n _ => n
  | _ => 0
set_option maxRecDepth 100000 in
set_option maxHeartbeats 1000000 in
theorem path_any (A0 : Option Addr) (c0 n0 : Nat) (l0 : List ByteArray) (i0 : Nat) (w : World) (hn0 : l0.length = n0) (he : Env w) (hc0 : n0 ≤ c0) (hl0 : n0 ≤ 1048576) (hs0 : ∀ s ∈ l0, s.size ≤ 1073741824) (hS0 : Strs w w.heap.size A0 l0) (hi : i0 < n0) :
    Calls Tryz.prog 44 #[.slice A0 n0 c0, .int .i64 i0] w fun e w' => ∃ A c n, e = .returned (.tuple #[.slice A n c, .int .i64 0]) ∧ (Dg.path l0 i0).length = n ∧ n ≤ c ∧ Strs w' w'.heap.size A (Dg.path l0 i0) ∧ Below w.heap.size w w' := by
  go_enter Tryz.func44, Tryz.ntmps44
  have hs0' := hide hs0; clear hs0
  have k1 : ¬ (n0 ≤ i0) := by omega
  have k2 : ¬ ((i0 : Int) < 0) := by omega
  have k3 : ¬ ((n0 : Int) ≤ (i0 : Int)) := by omega
  go_wp2
  go_loopw [0, 1, 6] (fun lv iv ov wr => ∃ (A : Option Addr) (c n i : Nat) (l out : List ByteArray), lv = .slice A n c ∧ iv = .int .i64 i ∧ l.length = n ∧ n ≤ c ∧ i < n ∧ n ≤ 1048576 ∧ Hid (∀ s ∈ l, s.size ≤ 1073741824) ∧ Strs wr w.heap.size A l ∧ OwnS wr w.heap.size ov out ∧
    Hid (Dg.path l0 i0 = Dg.path l i ++ out.reverse) ∧ out.length + n ≤ l0.length ∧ Below w.heap.size w wr) (fun lv _ _ _ => lenV lv)
  case atStart => exact ⟨A0, c0, n0, i0, l0, [], rfl, rfl, hn0, hc0, hi, hl0, hs0', hS0, OwnS.nil _ _, by unfold Hid; simp, by simp; omega, Below.refl _ _⟩
  case round =>
    obtain ⟨A, c, n, i, l, out, rfl, rfl, hln, hc, hin, hn, hs, hS, hO, hp, hlen, hb⟩ := hrel
    have hew := he.next hb
    by_cases h1 : 1 < n
    · have g1 := Dg.half_pos n
      have g2 := Dg.half_lt n (by omega)
      have pf := hide (fun h => Dg.path_fst l i (by omega) h)
      have ps := hide (fun h => Dg.path_snd l i (by omega) h)
      rw [hln] at pf ps
      have i1 := hide (fun (W : World) (hE : Env W) (hST : Strs W W.heap.size A (l.take (Dg.half n))) => root_of (Dg.half n) A c (l.take (Dg.half n)) _ W (by rw [List.length_take]; omega) rfl hE (by omega) (by omega) (fun s hs' => hs.out s (List.mem_of_mem_take hs')) hST)
      have i2 := hide (fun (W : World) (hE : Env W) (hST : Strs W W.heap.size (offA A (Dg.half n) c) (l.drop (Dg.half n))) => root_of (n - Dg.half n) (offA A (Dg.half n) c) (c - Dg.half n) (l.drop (Dg.half n)) _ W (by rw [List.length_drop, hln]) rfl hE (by omega) (by omega) (fun s hs' => hs.out s (List.mem_of_mem_drop hs')) hST)
      have e1 := hide (show (l.take (Dg.half n)).length = Dg.half n by rw [List.length_take]; omega)
      have e2 := hide (show (l.drop (Dg.half n)).length = n - Dg.half n by rw [List.length_drop]; omega)
      have z1 := root_size (l.take (Dg.half n))
      have z2 := root_size (l.drop (Dg.half n))
      have m1 := hide (fun s hs' => hs.out s (List.mem_of_mem_take (i := Dg.half n) hs'))
      have m2 := hide (fun s hs' => hs.out s (List.mem_of_mem_drop (i := Dg.half n) hs'))
      have hS1 := hS.take (Dg.half n)
      have hS2 := hS.drop (c := c) (by omega) (Dg.half n)
      go_wp2_with fail
      refine (half_any n (by omega) _).mono ?_
      rintro e w1 ⟨rfl, rfl⟩
      generalize Dg.half n = m at *
      generalize hX : Dg.root (l.take m) = X at *
      generalize hY : Dg.root (l.drop m) = Y at *
      clear hX hY
      have s1 := slice_to A n c m (by omega)
      have s2 := slice_from A n c m (by omega)
      have hsz := hb.size
      by_cases him : i < m
      · go_wp2_with fail
        refine (i2.out _ hew (hS2.more hsz)).mono ?_
        rintro e w1 ⟨rfl, hb1⟩
        have hb2 := bnext hb hb1
        have hO1 := hO.below hb1
        have hS11 := hS1.below (hb1.mono hsz)
        have hz1 := hb1.size
        go_wp2_with (at_builtin; refine step_s w1 rfl (.tmp 25) (.tmp 30) rfl Y w.heap.size _ out rfl hO1 rfl (by omega) (by omega) ?_; intro v' w2 hO2 hb3)
        have hb4 := hb2.trans hb3
        go_roundw
        case rel => exact ⟨A, c, m, i, l.take m, out ++ [Y], rfl, rfl, e1.out, by omega, him, by omega, m1, hS11.below hb3, hO2, by unfold Hid; rw [hp.out, pf.out him, List.append_assoc, List.reverse_append]; rfl, by rw [List.length_append, List.length_singleton]; omega, hb4⟩
        case measure => simp [lenV]; omega
      · go_wp2_with fail
        refine (i1.out _ hew (hS1.more hsz)).mono ?_
        rintro e w1 ⟨rfl, hb1⟩
        have hb2 := bnext hb hb1
        have hO1 := hO.below hb1
        have hS21 := hS2.below (hb1.mono hsz)
        have hz1 := hb1.size
        go_wp2_with (at_builtin; refine step_s w1 rfl (.tmp 35) (.tmp 40) rfl X w.heap.size _ out rfl hO1 rfl (by omega) (by omega) ?_; intro v' w2 hO2 hb3)
        have hb4 := hb2.trans hb3
        go_roundw
        case rel => exact ⟨offA A m c, c - m, n - m, i - m, l.drop m, out ++ [X], rfl, by go_num, e2.out, by omega, by omega, by omega, m2, hS21.below hb3, hO2, by unfold Hid; rw [hp.out, ps.out him, List.append_assoc, List.reverse_append]; rfl, by rw [List.length_append, List.length_singleton]; omega, hb4⟩
        case measure => simp [lenV]; omega
    · go_wp2_with fail
      have hsz := hb.size
      refine (reverse_any w.heap.size _ out _ hO hsz (by omega)).mono ?_
      rintro e w1 ⟨rfl, ⟨A1, c1, rfl, hc1, hS1⟩, hb1⟩
      go_wp2
      go_ret2
      have hp1 := hp.out
      rw [Dg.path_short l i (by omega), List.nil_append] at hp1
      rw [hp1]
      exact ⟨_, _, _, rfl, by rw [List.length_reverse], by omega, hS1, hb.trans hb1⟩
end Go.Proofs.YtobhpeockinnjaaGreatDoor
/- Link of package tree. -/
namespace Go.Proofs.YtobhpeockinnjaaGreatDoor
open Go Go.RowKit Go.Sort
end Go.Proofs.YtobhpeockinnjaaGreatDoor
/- slices.Clone of strings; all are digests: slices.ContainsFunc at tree.digests, walked. -/
namespace Go.Proofs.YtobhpeockinnjaaGreatDoor
open Go Go.RowKit Go.Sort
theorem clone_any (A : Option Addr) (n c : Nat) (l : List ByteArray) (w : World) (hn : l.length = n) (hb : n ≤ 1099511627776) (hS : Strs w w.heap.size A l) :
    Calls Tryz.prog 87 #[.slice A n c] w fun e w' => ∃ v', e = .returned v' ∧ OwnS w' w.heap.size v' l ∧ Below w.heap.size w w' := by
  subst hn
  have nilS : ∀ W, OwnS W w.heap.size (.slice none 0 0) [] := fun W => OwnS.nil _ _
  by_cases h0 : l.length = 0
  · obtain rfl : l = [] := List.length_eq_zero_iff.1 h0
    cases A with
    | none =>
      refine (Tryz.slices_Clone_string_nil 0 c w).mono ?_
      rintro e w' ⟨rfl, rfl⟩
      exact ⟨_, rfl, nilS _, Below.refl _ _⟩
    | some a =>
      refine (Tryz.slices_Clone_string_zero a c w).mono ?_
      rintro e w' ⟨v', rfl, ho, _, hB⟩
      exact ⟨v', rfl, ho, hB⟩
  · obtain ⟨b, off, rfl, hbl, hcell⟩ := hS.at_ (by omega)
    refine (Tryz.slices_Clone_string b off l.length c l w (Nat.le_refl _) (by omega) (fun j hj => ?_)).mono ?_
    · rw [hcell j l[j] (List.getElem?_eq_getElem hj), List.getD_eq_getElem?_getD, List.getElem?_eq_getElem hj]; rfl
    · rintro e w' ⟨v', rfl, ho, _, hB⟩
      refine ⟨v', rfl, ?_, hB⟩
      rw [List.take_length] at ho
      unfold OwnS OwnV
      rw [List.length_map]
      exact ho
theorem notdig_any (s : ByteArray) (r : Bool) (hr : Dg.isB s = r) (hs : s.size ≤ 4611686018427387904) (w : World) :
    Calls Tryz.prog 123 #[.string s] w fun e w' => e = .returned (.bool (!r)) ∧ Below w.heap.size w w' := by
  go_enter Tryz.func123, Tryz.ntmps123
  go_wp2_with fail
  refine (is_of s r hr hs w).mono ?_
  rintro e w1 ⟨rfl, hb⟩
  clear hr
  go_wp2
  go_ret
  exact ⟨rfl, hb⟩
set_option maxHeartbeats 400000 in
theorem index_any (A : Option Addr) (c n : Nat) (l : List ByteArray) (R : Bool) (hR : allDig l = R) (w : World) (hl : l.length = n) (hn : n ≤ 1099511627776) (hs : ∀ s ∈ l, s.size ≤ 4611686018427387904) (hr : Strs w w.heap.size A l) :
    Calls Tryz.prog 156 #[.slice A n c, .func (.func 123) #[] #[]] w fun e w' => (∃ k : Int, e = .returned (.int .i64 k) ∧ decide (k ≥ 0) = !R) ∧ Below w.heap.size w w' := by
  subst hl
  have HR := hide hR; clear hR
  go_enter Tryz.func156, Tryz.ntmps156
  go_wp2
  go_loopw [8] (fun i wr => ∃ k : Nat, k ≤ l.length ∧ i = .int .i64 k ∧ Below w.heap.size w wr ∧ Hid (∀ s ∈ l.take k, Dg.isB s = true)) (fun i _ => l.length - (intOf i).toNat)
  case atStart => exact ⟨0, by omega, rfl, Below.refl _ _, by unfold Hid; simp⟩
  case round =>
    obtain ⟨k, hk, rfl, hb, hall⟩ := hrel
    by_cases hlt : k < l.length
    · obtain ⟨b, off, rfl, hbl, hcell⟩ := (hr.below hb).get hlt
      have hsz := hs l[k] (List.getElem_mem hlt)
      have hts := hide (List.take_succ_eq_append_getElem hlt)
      have hm := hide (List.getElem_mem hlt)
      generalize l[k] = x at *
      go_wp2_with fail
      cases hx : Dg.isB x with
      | true =>
        refine (notdig_any x true hx hsz _).mono ?_
        rintro e w1 ⟨rfl, hb1⟩
        have hb2 := bnext hb hb1
        have hx' := hide hx; clear hx
        go_wp2
        go_roundw
        case rel =>
          refine ⟨k + 1, by omega, by go_num, hb2, ?_⟩
          unfold Hid
          rw [hts.out]
          intro s hs'
          rcases List.mem_append.1 hs' with h | h
          · exact hall.out s h
          · obtain rfl : s = x := by simpa using h
            exact hx'.out
        case measure => simp [intOf]; omega
      | false =>
        refine (notdig_any x false hx hsz _).mono ?_
        rintro e w1 ⟨rfl, hb1⟩
        have hb2 := bnext hb hb1
        have hx' := hide hx; clear hx
        go_wp2
        go_ret
        have := (allDig_no l x hm.out hx'.out).symm.trans HR.out
        subst this
        exact ⟨⟨_, rfl, by simp⟩, hb2⟩
    · obtain rfl : k = l.length := by omega
      go_wp2
      go_ret
      have h := hall.out
      rw [List.take_length] at h
      have := (allDig_yes l h).symm.trans HR.out
      subst this
      exact ⟨⟨_, rfl, by simp⟩, hb⟩
theorem contains_any (A : Option Addr) (c n : Nat) (l : List ByteArray) (R : Bool) (hR : allDig l = R) (w : World) (hl : l.length = n) (hn : n ≤ 1099511627776) (hs : ∀ s ∈ l, s.size ≤ 4611686018427387904) (hr : Strs w w.heap.size A l) :
    Calls Tryz.prog 122 #[.slice A n c, .func (.func 123) #[] #[]] w fun e w' => e = .returned (.bool (!R)) ∧ Below w.heap.size w w' := by
  go_enter Tryz.func122, Tryz.ntmps122
  go_wp2_with fail
  refine (index_any A c n l R hR w hl hn hs hr).mono ?_
  rintro e w1 ⟨⟨k, rfl, hk⟩, hb⟩
  have hk' := hide hk; clear hk hR
  go_wp2
  go_ret
  exact ⟨ret_bool (by have := hk'.out; simpa using this), hb⟩
theorem proper_any (A : Option Addr) (c n : Nat) (l : List ByteArray) (R : Bool) (hR : allDig l = R) (w : World) (hl : l.length = n) (hn : n ≤ 1099511627776) (hs : ∀ s ∈ l, s.size ≤ 4611686018427387904) (hr : Strs w w.heap.size A l) :
    Calls Tryz.prog 88 #[.slice A n c] w fun e w' => e = .returned (.bool R) ∧ Below w.heap.size w w' := by
  go_enter Tryz.func88, Tryz.ntmps88
  go_wp2_with fail
  refine (contains_any A c n l R hR w hl hn hs hr).mono ?_
  rintro e w1 ⟨rfl, hb⟩
  clear hR
  go_wp2
  go_ret
  exact ⟨ret_bool (by simp), hb⟩
end Go.Proofs.YtobhpeockinnjaaGreatDoor
/- pop, next and done of package tree: a proof that is used up from its end. -/
namespace Go.Proofs.YtobhpeockinnjaaGreatDoor
open Go Go.RowKit Go.Sort
theorem und_dig : Tryz.prog.underlying 118 = some (.slice (Tryz.prog.elem 118)) := by rw [show Tryz.prog.elem 118 = 9 by kernel_rfl]; exact Tryz.underlying118
theorem slice_toD (A : Option Addr) (n c k : Nat) (h : k ≤ c) (w : World) : (Instr.slice 118 (.slice A n c) none (some (.int .i64 (k : Int))) none).run Tryz.prog w = .ok (.slice A k c) w := by
  rw [run_slice_h w _ A n c und_dig .i64 k (by omega) (by omega), show Tryz.prog.elem 118 = 9 by kernel_rfl, Tryz.sizeOf9]
  show Result.ok (sliced A 0 (k : Int).toNat c 1) w = _
  unfold sliced
  rw [Int.toNat_natCast, Nat.zero_mul, Nat.sub_zero, Nat.sub_zero]
  have : (if c = 0 then A else A.map (fun x => x.add 0)) = A := by
    split
    · rfl
    · cases A with
      | none => rfl
      | some a => rw [Option.map_some, addr_add0]
  rw [this]
set_option maxHeartbeats 400000 in
theorem pop_zero (bl : Nat) (A : Option Addr) (c : Nat) (w : World) (hc : w.cell? ⟨bl, 0, none⟩ = some (.slice A 0 c)) :
    Calls Tryz.prog 124 #[.pointer (some ⟨bl, 0, none⟩)] w fun e w' => e = .returned (.string ⟨#[]⟩) ∧ w = w' := by
  go_enter Tryz.func124, Tryz.ntmps124
  go_wp2
  go_ret
  exact ⟨rfl, rfl⟩
set_option maxHeartbeats 1000000 in
theorem pop_more (bl : Nat) (b off c j : Nat) (d : ByteArray) (w : World) (hj : j ≤ 1099511627776) (hjc : j ≤ c) (hc : w.cell? ⟨bl, 0, none⟩ = some (.slice (some ⟨b, off, none⟩) (j + 1) c)) (hf : w.frozen? ⟨bl, 0, none⟩ = false) (hd : w.cell? ⟨b, off + j, none⟩ = some (.string d)) :
    Calls Tryz.prog 124 #[.pointer (some ⟨bl, 0, none⟩)] w fun e w' => e = .returned (.string d) ∧ ∃ q, w' = (w.setCell ⟨bl, 0, none⟩ (.slice (some ⟨b, off, none⟩) j c)).drewN q := by
  have s1 := slice_toD (some ⟨b, off, none⟩) (j + 1) c j hjc
  go_enter Tryz.func124, Tryz.ntmps124
  go_wp2_with fail
  go_quiet (fail)
  go_wp2_with fail
  generalize hW : w.drewN nq = W at *
  have hc' : W.cell? ⟨bl, 0, none⟩ = some (.slice (some ⟨b, off, none⟩) (j + 1) c) := by rw [← hW]; exact hc
  have hf' : W.frozen? ⟨bl, 0, none⟩ = false := by rw [← hW]; exact hf
  have HW := hide hW; clear hW hc hf hd
  go_region
  all_goals go_wp2_with fail
  all_goals go_ret
  all_goals exact ⟨rfl, nq + 1, by rw [← HW.out]; rfl⟩
/-- The cells of a proof that is under way: l lies at block bl, the proof at block bp. -/
structure PSt (w : World) (bl bp : Nat) (A : Option Addr) (c n : Nat) (sh : Bool) : Prop where
  l : w.cell? ⟨bl, 0, none⟩ = some (.slice A n c)
  lf : w.frozen? ⟨bl, 0, none⟩ = false
  p0 : w.cell? ⟨bp, 0, none⟩ = some (.pointer (some ⟨bl, 0, none⟩))
  p1 : w.cell? ⟨bp, 1, none⟩ = some (.bool sh)
  pf : w.frozen? ⟨bp, 1, none⟩ = false
theorem PSt.below {w w' : World} {bl bp : Nat} {A : Option Addr} {c n : Nat} {sh : Bool} (h : PSt w bl bp A c n sh) (hl : bl < w.heap.size) (hp : bp < w.heap.size) (hb : Below w.heap.size w w') : PSt w' bl bp A c n sh :=
  ⟨(hb.cell (p := ⟨bl, 0, none⟩) hl).trans h.l, (hb.frozen (p := ⟨bl, 0, none⟩) hl).trans h.lf, (hb.cell (p := ⟨bp, 0, none⟩) hp).trans h.p0, (hb.cell (p := ⟨bp, 1, none⟩) hp).trans h.p1, (hb.frozen (p := ⟨bp, 1, none⟩) hp).trans h.pf⟩
theorem cell_other {w : World} {b b' o o' : Nat} (v : Value) (h : b ≠ b' ∨ o ≠ o') : (w.setCell ⟨b, o, none⟩ v).cell? ⟨b', o', none⟩ = w.cell? ⟨b', o', none⟩ := by
  refine World.cell?_setCell_other _ _ _ _ ?_
  rintro e
  injection e with h1 h2
  omega
theorem PSt.setL {w : World} {bl bp : Nat} {A : Option Addr} {c n : Nat} {sh : Bool} (h : PSt w bl bp A c n sh) (hne : bl ≠ bp) (m : Nat) (q : Nat) : PSt ((w.setCell ⟨bl, 0, none⟩ (.slice A m c)).drewN q) bl bp A c m sh :=
  ⟨World.cell?_setCell_same' _ _ _ (by rw [h.l]; rfl), (World.frozen?_setCell _ _ _ _).trans h.lf, (cell_other _ (Or.inl hne)).trans h.p0, (cell_other _ (Or.inl hne)).trans h.p1, (World.frozen?_setCell _ _ _ _).trans h.pf⟩
theorem PSt.setP {w : World} {bl bp : Nat} {A : Option Addr} {c n : Nat} {sh : Bool} (h : PSt w bl bp A c n sh) (hne : bl ≠ bp) (s : Bool) : PSt (w.setCell ⟨bp, 1, none⟩ (.bool s)) bl bp A c n s :=
  ⟨(cell_other _ (Or.inl (Ne.symm hne))).trans h.l, (World.frozen?_setCell _ _ _ _).trans h.lf, (cell_other _ (Or.inr (by decide))).trans h.p0, World.cell?_setCell_same' _ _ _ (by rw [h.p1]; rfl), (World.frozen?_setCell _ _ _ _).trans h.pf⟩
/-- Blocks bl and bp alone have been written. -/
structure Mut (bl bp : Nat) (w w' : World) : Prop where
  os : w'.os = w.os
  tape : w'.tape = w.tape
  output : w'.output = w.output
  size : w.heap.size ≤ w'.heap.size
  block : ∀ k, k < w.heap.size → k ≠ bl → k ≠ bp → w'.heap[k]? = w.heap[k]?
theorem Mut.refl (bl bp : Nat) (w : World) : Mut bl bp w w := ⟨rfl, rfl, rfl, Nat.le_refl _, fun _ _ _ _ => rfl⟩
theorem Mut.trans {bl bp : Nat} {a b c : World} (h : Mut bl bp a b) (k : Mut bl bp b c) : Mut bl bp a c :=
  ⟨k.os.trans h.os, k.tape.trans h.tape, k.output.trans h.output, Nat.le_trans h.size k.size, fun i hi h1 h2 => (k.block i (Nat.lt_of_lt_of_le hi h.size) h1 h2).trans (h.block i hi h1 h2)⟩
theorem Mut.below {bl bp : Nat} {a b : World} (h : Below a.heap.size a b) : Mut bl bp a b := ⟨h.os, h.tape, h.output, h.size, fun i hi _ _ => h.block i hi⟩
theorem Mut.next {bl bp : Nat} {a b c : World} (h : Mut bl bp a b) (k : Below b.heap.size b c) : Mut bl bp a c := h.trans (Mut.below k)
theorem Mut.setCell {bl bp : Nat} {a b : World} (h : Mut bl bp a b) (q : Addr) (hq : q.block = bl ∨ q.block = bp) (v : Value) : Mut bl bp a (b.setCell q v) :=
  h.trans ⟨rfl, rfl, rfl, by simp [World.setCell], fun k _ h1 h2 => Below.heap_setCell _ _ _ _ (by rintro rfl; rcases hq with e | e; exact h1 e; exact h2 e)⟩
theorem Mut.drewN {bl bp : Nat} {a b : World} (h : Mut bl bp a b) (q : Nat) : Mut bl bp a (b.drewN q) := ⟨h.os, h.tape, h.output, h.size, h.block⟩
theorem Mut.toBelow {bl bp B : Nat} {a b : World} (h : Mut bl bp a b) (h1 : B ≤ bl) (h2 : B ≤ bp) (h3 : B ≤ a.heap.size) : Below B a b := ⟨h.os, h.tape, h.output, h.size, fun k hk => h.block k (by omega) (by omega) (by omega)⟩
theorem Mut.cell {bl bp : Nat} {a b : World} (h : Mut bl bp a b) {p : Addr} (hp : p.block < a.heap.size) (h1 : p.block ≠ bl) (h2 : p.block ≠ bp) : b.cell? p = a.cell? p := World.cell?_of_block (w := a) (h.block p.block hp h1 h2)
theorem emp_ne {d : ByteArray} (h : d.size = 16) : (d.toList == ([] : List UInt8)) = false := by
  have : d ≠ ⟨#[]⟩ := fun e => by rw [e] at h; exact absurd h (by decide)
  have h2 := tl_false (b := ⟨#[]⟩) this
  rwa [show (⟨#[]⟩ : ByteArray).toList = [] by kernel_rfl] at h2
set_option maxHeartbeats 400000 in
theorem next_zero (bl bp : Nat) (A : Option Addr) (c : Nat) (sh : Bool) (w : World) (h : PSt w bl bp A c 0 sh) (hne : bl ≠ bp) :
    Calls Tryz.prog 90 #[.pointer (some ⟨bp, 0, none⟩)] w fun e w' => e = .returned (.string ⟨#[]⟩) ∧ PSt w' bl bp A c 0 true ∧ Mut bl bp w w' := by
  have H := hide h
  obtain ⟨h1, h2, h3, h4, h5⟩ := h
  go_enter Tryz.func90, Tryz.ntmps90
  go_wp2_with fail
  refine (pop_zero bl A c w h1).mono ?_
  rintro e w1 ⟨rfl, rfl⟩
  cases sh with
  | true =>
    go_wp2
    go_ret
    exact ⟨rfl, H.out.setP hne true, (Mut.refl _ _ _).setCell ⟨bp, 1, none⟩ (Or.inr rfl) _⟩
  | false =>
    go_wp2
    go_ret
    exact ⟨rfl, H.out.setP hne true, (Mut.refl _ _ _).setCell ⟨bp, 1, none⟩ (Or.inr rfl) _⟩
set_option maxHeartbeats 400000 in
theorem next_more (bl bp b off c j : Nat) (sh : Bool) (d : ByteArray) (w : World) (h : PSt w bl bp (some ⟨b, off, none⟩) c (j + 1) sh) (hne : bl ≠ bp) (hj : j ≤ 1099511627776) (hjc : j ≤ c) (hd : w.cell? ⟨b, off + j, none⟩ = some (.string d)) (hz : d.size = 16) :
    Calls Tryz.prog 90 #[.pointer (some ⟨bp, 0, none⟩)] w fun e w' => e = .returned (.string d) ∧ PSt w' bl bp (some ⟨b, off, none⟩) c j sh ∧ Mut bl bp w w' := by
  have H := hide h
  have HE := emp_ne hz
  obtain ⟨h1, h2, h3, h4, h5⟩ := h
  go_enter Tryz.func90, Tryz.ntmps90
  go_wp2_with fail
  refine (pop_more bl b off c j d w hj hjc h1 h2 hd).mono ?_
  rintro e w1 ⟨rfl, q, rfl⟩
  have hb : Mut bl bp w ((w.setCell ⟨bl, 0, none⟩ (.slice (some ⟨b, off, none⟩) j c)).drewN q) := ((Mut.refl _ _ _).setCell ⟨bl, 0, none⟩ (Or.inl rfl) _).drewN q
  have H1 := H.out.setL hne j q
  generalize (w.setCell ⟨bl, 0, none⟩ (.slice (some ⟨b, off, none⟩) j c)).drewN q = w1 at *
  clear h1 h2 h3 h4 h5 hd H
  have H := hide H1
  obtain ⟨h1, h2, h3, h4, h5⟩ := H1
  cases sh with
  | true =>
    go_wp2
    go_ret
    exact ⟨rfl, H.out.setP hne true, hb.setCell ⟨bp, 1, none⟩ (Or.inr rfl) _⟩
  | false =>
    go_wp2
    go_ret
    exact ⟨rfl, H.out.setP hne false, hb.setCell ⟨bp, 1, none⟩ (Or.inr rfl) _⟩
theorem next_any (bl bp : Nat) (A : Option Addr) (c k : Nat) (sh : Bool) (p : List ByteArray) (B : Nat) (D : ByteArray) (K : Nat) (S : Bool) (hD : (p.take k).reverse.headD ⟨#[]⟩ = D) (hK : k - 1 = K) (hS : (sh || decide (k = 0)) = S) (w : World) (h : PSt w bl bp A c k sh) (hne : bl ≠ bp)
    (hk : k ≤ p.length) (hpc : p.length ≤ c) (hp : p.length ≤ 1048576) (hz : ∀ s ∈ p, s.size = 16) (hSt : Strs w B A p) :
    Calls Tryz.prog 90 #[.pointer (some ⟨bp, 0, none⟩)] w fun e w' => e = .returned (.string D) ∧ PSt w' bl bp A c K S ∧ Mut bl bp w w' := by
  subst hD hK hS
  cases k with
  | zero =>
    refine (next_zero bl bp A c sh w h hne).mono ?_
    rintro e w' ⟨rfl, h1, h2⟩
    refine ⟨rfl, ?_, h2⟩
    simpa using h1
  | succ j =>
    obtain ⟨b, off, rfl, _, hcell⟩ := hSt.get (k := j) (by omega)
    refine (next_more bl bp b off c j sh p[j] w h hne (by omega) (by omega) hcell (hz _ (List.getElem_mem _))).mono ?_
    rintro e w' ⟨rfl, h1, h2⟩
    refine ⟨ret_str ?_, ?_, h2⟩
    · rw [List.take_succ_eq_append_getElem (by omega), List.reverse_append]; rfl
    · simpa using h1
set_option maxHeartbeats 400000 in
theorem done_any (bl bp : Nat) (A : Option Addr) (c n : Nat) (sh : Bool) (R : Bool) (w : World) (h : PSt w bl bp A c n sh) (_hn : n ≤ 1099511627776) (hR : (!sh && decide (n = 0)) = R) :
    Calls Tryz.prog 91 #[.pointer (some ⟨bp, 0, none⟩)] w fun e w' => e = .returned (.bool R) ∧ w = w' := by
  subst hR
  obtain ⟨h1, h2, h3, h4, h5⟩ := h
  go_enter Tryz.func91, Tryz.ntmps91
  cases sh with
  | true =>
    go_wp2
    go_ret
    exact ⟨rfl, rfl⟩
  | false =>
    go_wp2
    go_ret
    refine ⟨ret_bool ?_, rfl⟩
    simp only [Bool.not_false, Bool.true_and]
    rw [Bool.eq_iff_iff]
    simp only [beq_iff_eq, decide_eq_true_eq]
    omega
end Go.Proofs.YtobhpeockinnjaaGreatDoor
/- Check of package tree: its closure, then itself. -/
namespace Go.Proofs.YtobhpeockinnjaaGreatDoor
open Go Go.RowKit Go.Sort
/-- Where the blocks lie that a proof under way uses. -/
structure Blk (w : World) (B bl bp bf bP bu : Nat) : Prop where
  g : 0 < B
  l : B ≤ bl
  p : B ≤ bp
  lp : bl ≠ bp
  fl : bf ≠ bl
  fp : bf ≠ bp
  Pl : bP ≠ bl
  Pp : bP ≠ bp
  ul : bu ≠ bl
  up : bu ≠ bp
  ll : bl < w.heap.size
  pl : bp < w.heap.size
  ff : bf < w.heap.size
  PP : bP < w.heap.size
  uu : bu < w.heap.size
theorem Blk.more {w w' : World} {B bl bp bf bP bu : Nat} (h : Blk w B bl bp bf bP bu) (hs : w.heap.size ≤ w'.heap.size) : Blk w' B bl bp bf bP bu :=
  ⟨h.g, h.l, h.p, h.lp, h.fl, h.fp, h.Pl, h.Pp, h.ul, h.up, Nat.lt_of_lt_of_le h.ll hs, Nat.lt_of_lt_of_le h.pl hs, Nat.lt_of_lt_of_le h.ff hs, Nat.lt_of_lt_of_le h.PP hs, Nat.lt_of_lt_of_le h.uu hs⟩
theorem Blk.lt {w : World} {B bl bp bf bP bu : Nat} (h : Blk w B bl bp bf bP bu) : B < w.heap.size := Nat.lt_of_le_of_lt h.l h.ll
/-- What the closure has captured. -/
structure CEnv (w : World) (g bf bP bu bp : Nat) (v : Value) : Prop where
  f : w.cell? ⟨bf, 0, none⟩ = some v
  P : w.cell? ⟨bP, 0, none⟩ = some (.pointer (some ⟨bp, 0, none⟩))
  u : w.cell? ⟨bu, 0, none⟩ = some (.func (.func g) #[] #[.pointer (some ⟨bf, 0, none⟩), .pointer (some ⟨bP, 0, none⟩), .pointer (some ⟨bu, 0, none⟩)])
theorem CEnv.mut {w w' : World} {B bl g bf bP bu bp : Nat} {v : Value} (h : CEnv w g bf bP bu bp v) (hb : Blk w B bl bp bf bP bu) (hm : Mut bl bp w w') : CEnv w' g bf bP bu bp v :=
  ⟨(hm.cell (p := ⟨bf, 0, none⟩) hb.ff hb.fl hb.fp).trans h.f, (hm.cell (p := ⟨bP, 0, none⟩) hb.PP hb.Pl hb.Pp).trans h.P, (hm.cell (p := ⟨bu, 0, none⟩) hb.uu hb.ul hb.up).trans h.u⟩
theorem Strs.mut {w w' : World} {B bl bf bP bu bp : Nat} {A : Option Addr} {l : List ByteArray} (h : Strs w B A l) (hb : Blk w B bl bp bf bP bu) (hm : Mut bl bp w w') : Strs w' B A l :=
  h.keep fun p hp => hm.cell (Nat.lt_trans hp hb.lt) (by have := hb.l; omega) (by have := hb.p; omega)
theorem Env.mut {w w' : World} {B bl bf bP bu bp : Nat} (h : Env w) (hb : Blk w B bl bp bf bP bu) (hm : Mut bl bp w w') : Env w' :=
  h.below (hm.toBelow hb.l hb.p (Nat.le_of_lt hb.lt)) hb.g
theorem PSt.drew {w : World} {bl bp : Nat} {A : Option Addr} {c n : Nat} {sh : Bool} (h : PSt w bl bp A c n sh) : PSt w.drew bl bp A c n sh := ⟨h.l, h.lf, h.p0, h.p1, h.pf⟩
theorem Strs.drew {w : World} {B : Nat} {A : Option Addr} {l : List ByteArray} (h : Strs w B A l) : Strs w.drew B A l := h.keep fun _ _ => rfl
theorem Mut.drew {bl bp : Nat} {a b : World} (h : Mut bl bp a.drew b) : Mut bl bp a b := ⟨h.os, h.tape, h.output, h.size, h.block⟩
theorem flag_step (sh : Bool) (k l : Nat) : ((sh || decide (k = 0)) || decide (k - 1 < l)) = (sh || decide (k < 1 + l)) := by
  cases sh with
  | true => rfl
  | false =>
    rw [Bool.false_or, Bool.false_or, Bool.eq_iff_iff]
    simp only [Bool.or_eq_true, decide_eq_true_eq]
    omega
theorem take_tail (p : List ByteArray) (k : Nat) (hk : k ≤ p.length) : (p.take k).reverse.tail = (p.take (k - 1)).reverse := by
  rw [rev_tail, List.take_take, List.length_take]
  congr 2
  omega
theorem head16 {p : List ByteArray} (k : Nat) (hz : ∀ s ∈ p, s.size = 16) : ((p.take k).reverse.headD ⟨#[]⟩).size ≤ 16 := by
  cases h : (p.take k).reverse with
  | nil => decide
  | cons a r =>
    have : a ∈ (p.take k).reverse := by rw [h]; exact List.mem_cons_self ..
    exact Nat.le_of_eq (hz a (List.mem_of_mem_take (List.mem_reverse.1 this)))
theorem up_sz (n i : Nat) (d : ByteArray) (r : List ByteArray) (hd : d.size = 16) : (Dg.up n i d r).size = 16 := by
  by_cases h1 : n ≤ 1
  · rw [Dg.up_one _ _ _ _ h1]; exact hd
  · by_cases hi : i < Dg.half n
    · rw [Dg.up_fst _ _ _ _ (by omega) hi, Dg.nodeB, listB_size]
    · rw [Dg.up_snd _ _ _ _ (by omega) hi, Dg.nodeB, listB_size]
set_option maxHeartbeats 1000000 in
theorem up_any (B bl bp bf bP bu c : Nat) (A : Option Addr) (leaf : ByteArray) (p : List ByteArray) (hz : ∀ s ∈ p, s.size = 16) (hpc : p.length ≤ c) (hp : p.length ≤ 1048576) (hleaf : leaf.size ≤ 1073741824) (n : Nat) :
    ∀ (i k K : Nat) (sh S : Bool) (R : ByteArray) (w : World), 1 ≤ n → n ≤ 1000000 → i < n → k ≤ p.length → Dg.up n i (Dg.leafB leaf) (p.take k).reverse = R → k - Dg.length n i = K → (sh || decide (k < Dg.length n i)) = S →
    Env w → Blk w B bl bp bf bP bu → PSt w bl bp A c k sh → CEnv w 89 bf bP bu bp (.string leaf) → Strs w B A p →
    Calls Tryz.prog 89 #[.int .i64 n, .int .i64 i, .pointer (some ⟨bf, 0, none⟩), .pointer (some ⟨bP, 0, none⟩), .pointer (some ⟨bu, 0, none⟩)] w fun e w' => e = .returned (.string R) ∧ PSt w' bl bp A c K S ∧ Mut bl bp w w' := by
  induction n using Nat.strongRecOn with
  | _ n ih =>
  intro i k K sh S R w h1 hn hi hk hR hK hS he hb hst hce hst2
  have HR := hide hR; have HK := hide hK; have HS := hide hS; clear hR hK hS
  have HZ := hide hz; clear hz
  have HST := hide hst; clear hst
  have HCE := hide hce
  obtain ⟨hcf, hcP, hcu⟩ := hce
  go_enter Tryz.func89, Tryz.ntmps89
  by_cases hone : n = 1
  · subst hone
    have hm := hide (mem2 (a := Dg.sLeaf) (n := 1073741824) (by decide) hleaf)
    go_wp2_with fail
    refine (list_new [Dg.sLeaf, leaf] _ _ 2 _ rfl (len2 _ _) hm.out (Dg.leafB leaf) rfl w he rfl _ rfl).mono ?_
    rintro e w1 ⟨rfl, hb1⟩
    go_wp2
    go_ret
    have e1 := HR.out; have e2 := HK.out; have e3 := HS.out
    rw [Dg.up_one _ _ _ _ (Nat.le_refl _)] at e1
    rw [Dg.length_one _ _ (Nat.le_refl _)] at e2 e3
    refine ⟨ret_str e1, ?_, Mut.below hb1⟩
    have : S = sh := by rw [← e3]; simp
    rw [this, ← e2]
    exact HST.out.below hb.ll hb.pl hb1
  · have g1 := Dg.half_pos n
    have g2 := Dg.half_lt n (by omega)
    have n1 : ¬ ((n : Int) = 1) := by omega
    have pf := hide (fun h => (Dg.length_fst n i (by omega) h))
    have ps := hide (fun h => (Dg.length_snd n i (by omega) h))
    have uf := hide (fun h => (Dg.up_fst n i (Dg.leafB leaf) (p.take k).reverse (by omega) h))
    have us := hide (fun h => (Dg.up_snd n i (Dg.leafB leaf) (p.take k).reverse (by omega) h))
    have g4 : 1 ≤ n - Dg.half n := by omega
    have IH := hide ih; clear ih
    have lh := length_le (Dg.half n) i
    have lh' := length_le (n - Dg.half n) (i - Dg.half n)
    have z1 := up_sz (Dg.half n) i (Dg.leafB leaf) (p.take (k - 1)).reverse (listB_size _)
    have z2 := up_sz (n - Dg.half n) (i - Dg.half n) (Dg.leafB leaf) (p.take (k - 1)).reverse (listB_size _)
    have zd := head16 k HZ.out
    rw [take_tail p k hk] at uf us
    generalize hD : (p.take k).reverse.headD ⟨#[]⟩ = D at *
    have HD := hide hD; clear hD
    have FS := hide (flag_step sh k)
    generalize hS1 : (sh || decide (k = 0)) = S1 at *
    have HS1 := hide hS1; clear hS1
    generalize hm : Dg.half n = m at *
    have HM0 := hide hm; clear hm
    go_upto_region 3 with (fail)
    go_cut [8, 9] (fun kv dv wx => kv = .int .i64 m ∧ dv = .string D ∧ PSt wx bl bp A c (k - 1) S1 ∧ Mut bl bp w wx)
    case first =>
      go_region_with (first
        | (go_at_call 67; refine (half_any n (by omega) _).mono ?_; rintro e w1 ⟨rfl, rfl⟩; rw [HM0.out])
        | (go_at_call 90; refine (next_any bl bp A c k sh p B D (k - 1) S1 HD.out rfl HS1.out _ HST.out.drew hb.lp hk hpc hp HZ.out hst2.drew).mono ?_; rintro e w1 ⟨rfl, HQ, HM⟩; have HQ := hide HQ; have HM := hide HM.drew))
      all_goals go_wp2_with fail
      all_goals go_meet
      all_goals exact ⟨rfl, rfl, HQ.out, HM.out⟩
    case rest =>
      obtain ⟨rfl, rfl, hq, hmw⟩ := hcut
      have he2 := he.mut hb hmw
      have hb2 := hb.more hmw.size
      have hce2 := HCE.out.mut hb hmw
      have hst3 := hst2.mut hb hmw
      have HMW := hide hmw
      have HQ := hide hq; clear hq hmw hcf hcP hcu HCE HST hst2 he
      have HCE := hide hce2
      obtain ⟨hcf, hcP, hcu⟩ := hce2
      by_cases him : i < m
      · have e1 := uf.out him
        have e2 := pf.out him
        have hr := hide (HR.out.symm.trans e1)
        have hk2 := HK.out
        have hs2 := HS.out
        rw [e2] at hk2 hs2
        rw [← FS.out] at hs2
        have hk3 := hide (show k - 1 - Dg.length m i = K by omega); clear hk2 e1 e2
        have hs3 := hide hs2; clear hs2
        have i1 := hide (IH.out m g2 i (k - 1) K S1 S _ wc g1 (by omega) him (by omega) rfl hk3.out hs3.out he2 hb2 HQ.out HCE.out hst3)
        generalize Dg.up m i (Dg.leafB leaf) (p.take (k - 1)).reverse = X at *
        clear IH
        go_wp2_with fail
        refine i1.out.mono ?_
        rintro e w1 ⟨rfl, hq1, hm1⟩
        have he3 := he2.mut hb2 hm1
        have hb3 := hb2.more hm1.size
        have HQ1 := hide hq1; have HM1 := hide hm1; clear hq1 hm1
        go_wp2_with fail
        refine (node_any X D (by omega) (by omega) _ he3).mono ?_
        rintro e w2 ⟨rfl, hb4⟩
        go_wp2
        go_ret
        exact ⟨ret_str hr.out.symm, HQ1.out.below hb3.ll hb3.pl hb4, (HMW.out.trans HM1.out).next hb4⟩
      · have e1 := us.out him
        have e2 := ps.out him
        have hr := hide (HR.out.symm.trans e1)
        have hk2 := HK.out
        have hs2 := HS.out
        rw [e2] at hk2 hs2
        rw [← FS.out] at hs2
        have hk3 := hide (show k - 1 - Dg.length (n - m) (i - m) = K by omega); clear hk2 e1 e2
        have hs3 := hide hs2; clear hs2
        have i1 := hide (IH.out (n - m) (by omega) (i - m) (k - 1) K S1 S _ wc g4 (by omega) (by omega) (by omega) rfl hk3.out hs3.out he2 hb2 HQ.out HCE.out hst3)
        generalize Dg.up (n - m) (i - m) (Dg.leafB leaf) (p.take (k - 1)).reverse = X at *
        have c1 : (n : Int) - (m : Int) = ((n - m : Nat) : Int) := by omega
        have c2 : (i : Int) - (m : Int) = ((i - m : Nat) : Int) := by omega
        clear IH
        go_wp2_with fail
        refine i1.out.mono ?_
        rintro e w1 ⟨rfl, hq1, hm1⟩
        have he3 := he2.mut hb2 hm1
        have hb3 := hb2.more hm1.size
        have HQ1 := hide hq1; have HM1 := hide hm1; clear hq1 hm1
        go_wp2_with fail
        refine (node_any D X (by omega) (by omega) _ he3).mono ?_
        rintro e w2 ⟨rfl, hb4⟩
        go_wp2
        go_ret
        exact ⟨ret_str hr.out.symm, HQ1.out.below hb3.ll hb3.pl hb4, (HMW.out.trans HM1.out).next hb4⟩
end Go.Proofs.YtobhpeockinnjaaGreatDoor
/- The laws of trees in plain Lean: paths prove elements, links prove extensions, and what equal roots show. No program in sight. -/
namespace Go.Proofs.YtobhpeockinnjaaGreatDoor.Dg
/-- Two different texts of a list have one digest. -/
def Shown (l : List ByteArray) : Prop := ∃ a, a ∈ l ∧ ∃ b, b ∈ l ∧ a ≠ b ∧ sumB a = sumB b
theorem Shown.mono {l m : List ByteArray} (h : Shown l) (hs : ∀ x ∈ l, x ∈ m) : Shown m := by
  obtain ⟨a, ha, b, hb, hne, he⟩ := h
  exact ⟨a, hs a ha, b, hs b hb, hne, he⟩
def jB (l : List ByteArray) : ByteArray := B (joinedL l)
theorem listB_size (l : List ByteArray) : (listB l).size = 16 := sumB_size (B (joinedL l))
theorem root_size16 (l : List ByteArray) : (root l).size = 16 := by
  match l with
  | [] => rw [root_nil]; exact listB_size _
  | [s] => rw [root_one]; exact listB_size _
  | s :: t :: r => rw [root_more _ (by simp)]; exact listB_size _
def Z : Nat := 1099511627776
/-! The texts that are digested for a root. -/
def textsF : Nat → List ByteArray → List ByteArray
  | 0, _ => [jB [sEmpty]]
  | _ + 1, [] => [jB [sEmpty]]
  | _ + 1, [s] => [jB [sLeaf, s]]
  | f + 1, s :: t :: r => (textsF f ((s :: t :: r).take (half (r.length + 2))) ++ textsF f ((s :: t :: r).drop (half (r.length + 2)))) ++ [jB [sNode, root ((s :: t :: r).take (half (r.length + 2))), root ((s :: t :: r).drop (half (r.length + 2)))]]
def texts (l : List ByteArray) : List ByteArray := textsF l.length l
/-! P2.4: equal roots. -/
/-! P2.2: the path proves the element. -/
theorem path_len (n : Nat) : ∀ (l : List ByteArray) (i : Nat), l.length = n → i < n → (path l i).length = length n i := by
  induction n using Nat.strongRecOn with
  | _ n ih =>
  intro l i hl hi
  by_cases h1 : n ≤ 1
  · rw [path_short l i (by omega), length_one n i h1]; rfl
  have g1 := half_pos n
  have g2 := half_lt n (by omega)
  by_cases hh : i < half n
  · rw [path_fst l i (by omega) (by rw [hl]; exact hh), length_fst n i (by omega) hh, hl, List.length_append, ih (half n) g2 _ i (by rw [List.length_take]; omega) hh, List.length_singleton]; omega
  · rw [path_snd l i (by omega) (by rw [hl]; exact hh), length_snd n i (by omega) hh, hl, List.length_append, ih (n - half n) (by omega) _ (i - half n) (by rw [List.length_drop]; omega) (by omega), List.length_singleton]; omega
theorem path_up (n : Nat) : ∀ (l : List ByteArray) (i : Nat) (hi : i < l.length), l.length = n → up n i (leafB l[i]) (path l i).reverse = root l := by
  induction n using Nat.strongRecOn with
  | _ n ih =>
  intro l i hi hl
  by_cases h1 : n ≤ 1
  · obtain ⟨x, rfl⟩ : ∃ s, l = [s] := List.length_eq_one_iff.1 (by omega)
    obtain rfl : i = 0 := by simp at hi; omega
    rw [up_one n _ _ _ h1, root_one]; rfl
  have g1 := half_pos n
  have g2 := half_lt n (by omega)
  rw [root_more l (by omega)]
  by_cases hh : i < half n
  · rw [path_fst l i (by omega) (by rw [hl]; exact hh), up_fst n i _ _ (by omega) hh, hl, List.reverse_append]
    have e := ih (half n) g2 (l.take (half n)) i (by rw [List.length_take]; omega) (by rw [List.length_take]; omega)
    rw [List.getElem_take] at e
    refine nodeB_congr e rfl
  · rw [path_snd l i (by omega) (by rw [hl]; exact hh), up_snd n i _ _ (by omega) hh, hl, List.reverse_append]
    have e := ih (n - half n) (by omega) (l.drop (half n)) (i - half n) (by rw [List.length_drop]; omega) (by rw [List.length_drop]; omega)
    rw [List.getElem_drop] at e
    have e2 : half n + (i - half n) = i := by omega
    simp only [e2] at e
    refine nodeB_congr rfl e
theorem path_sizes (n : Nat) : ∀ (l : List ByteArray) (i : Nat), l.length = n → ∀ s ∈ path l i, isB s = true ∧ s.size = 16 := by
  have hr : ∀ l, isB (root l) = true := fun l => by
    match l with
    | [] => rw [root_nil]; exact isB_listB _
    | [s] => rw [root_one]; exact isB_listB _
    | s :: t :: r => rw [root_more _ (by simp)]; exact isB_listB _
  induction n using Nat.strongRecOn with
  | _ n ih =>
  intro l i hl s hs
  by_cases h1 : n ≤ 1
  · rw [path_short l i (by omega)] at hs; simp at hs
  have g1 := half_pos n
  have g2 := half_lt n (by omega)
  by_cases hh : i < half n
  · rw [path_fst l i (by omega) (by rw [hl]; exact hh), hl] at hs
    rcases List.mem_append.1 hs with hs | hs
    · exact ih (half n) g2 _ i (by rw [List.length_take]; omega) s hs
    · rw [List.mem_singleton.1 hs]; exact ⟨hr _, root_size16 _⟩
  · rw [path_snd l i (by omega) (by rw [hl]; exact hh), hl] at hs
    rcases List.mem_append.1 hs with hs | hs
    · exact ih (n - half n) (by omega) _ _ (by rw [List.length_drop]; omega) s hs
    · rw [List.mem_singleton.1 hs]; exact ⟨hr _, root_size16 _⟩
theorem isB_len {s : ByteArray} (h : isB s = true) : s.size = 16 := by
  unfold isB is at h
  rw [Bool.and_eq_true] at h
  have := of_decide_eq_true h.1
  rwa [len_L] at this
/-! P2.3: what a path that proves another string shows. -/
end Go.Proofs.YtobhpeockinnjaaGreatDoor.Dg
/- The laws of links in plain Lean. No program in sight. -/
namespace Go.Proofs.YtobhpeockinnjaaGreatDoor.Dg
/-! half is a power of two. -/
theorem halfF_pow (f k n e : Nat) (h : k = 2 ^ e) : ∃ e', halfF f k n = 2 ^ e' := by
  induction f generalizing k e with
  | zero => exact ⟨e, h⟩
  | succ f ih =>
    rw [halfF]
    split
    · exact ih (2 * k) (e + 1) (by rw [h, Nat.pow_succ]; omega)
    · exact ⟨e, h⟩
theorem half_pow (n : Nat) : ∃ e, half n = 2 ^ e := halfF_pow _ 1 _ 0 rfl
/-! The way of a link, from the root. -/
def wayF : Nat → Nat → Nat → List Bool
  | 0, _, _ => []
  | f + 1, n, m => if m = n then [] else if m ≤ half n then true :: wayF f (half n) m else false :: wayF f (n - half n) (m - half n)
def way (n m : Nat) : List Bool := wayF n n m
def longW : List Bool → Bool → Nat
  | [], whole => if whole then 0 else 1
  | b :: w, whole => 1 + longW w (b && whole)
def long (n m : Nat) (whole : Bool) : Nat := longW (way n m) whole
def bothW : List Bool → Bool → ByteArray → List ByteArray → ByteArray × ByteArray
  | [], whole, old, r => if whole then (old, old) else (r.headD ⟨#[]⟩, r.headD ⟨#[]⟩)
  | true :: w, whole, old, r => ((bothW w whole old r.tail).1, nodeB (bothW w whole old r.tail).2 (r.headD ⟨#[]⟩))
  | false :: w, _, old, r => (nodeB (r.headD ⟨#[]⟩) (bothW w false old r.tail).1, nodeB (r.headD ⟨#[]⟩) (bothW w false old r.tail).2)
def both (n m : Nat) (whole : Bool) (old : ByteArray) (r : List ByteArray) : ByteArray × ByteArray := bothW (way n m) whole old r
/-! P2.5: the link proves the extension. -/
/-! P2.6: what a link that proves another beginning shows. -/
/-! Sizes. -/
def bits : Nat → Nat → Nat
  | 0, _ => 0
  | f + 1, n => if n = 0 then 0 else 1 + bits f (n / 2)
theorem length_small : ∀ n, n ≤ 20 → ∀ i, i < n → length n i ≤ bits 5 n := by decide +kernel
end Go.Proofs.YtobhpeockinnjaaGreatDoor.Dg
/- Check of package tree. -/
namespace Go.Proofs.YtobhpeockinnjaaGreatDoor
open Go Go.RowKit Go.Sort
/-- What Check answers. -/
def checkB (root : ByteArray) (n i : Int) (s : ByteArray) (p : List ByteArray) : Bool :=
  decide (n ≤ 1000000 ∧ 0 ≤ i ∧ i < n) && (allDig p && (decide (p.length = Dg.length n.toNat i.toNat) && decide (Dg.up n.toNat i.toNat (Dg.leafB s) p.reverse = root)))
theorem allDig_mem {p : List ByteArray} (h : allDig p = true) : ∀ s ∈ p, Dg.isB s = true := fun s hs => by unfold allDig at h; exact List.all_eq_true.1 h s hs
theorem allDig_16 {p : List ByteArray} (h : allDig p = true) : ∀ s ∈ p, s.size = 16 := fun s hs => Dg.isB_len (allDig_mem h s hs)
/-- The blocks that Check and Extends lay before they call their closures. -/
theorem setup (w : World) (g : Nat) (T1 T2 T3 : TypeId) (B bl bf c n : Nat) (A : Option Addr) (v : Value) (h1 : w.cell? ⟨bl, 0, none⟩ = some (.slice A n c)) (h2 : w.frozen? ⟨bl, 0, none⟩ = false) (h3 : w.cell? ⟨bf, 0, none⟩ = some v)
    (hbl : bl < w.heap.size) (hbf : bf < w.heap.size) (hne : bf ≠ bl) (hB : B ≤ bl) (hg : 0 < B) (N1 N2 : Nat) (hN1 : N1 = w.heap.size + 1) (hN2 : N2 = w.heap.size + 1 + 1) (W : World)
    (hW : W = ((w.alloc (.cells #[.pointer (some ⟨bl, 0, none⟩), .bool false] T1)).alloc (.cells #[.pointer (some ⟨w.heap.size, 0, none⟩)] T2)).alloc (.cells #[.func (.func g) #[] #[.pointer (some ⟨bf, 0, none⟩), .pointer (some ⟨N1, 0, none⟩), .pointer (some ⟨N2, 0, none⟩)]] T3)) :
    PSt W bl w.heap.size A c n false ∧ CEnv W g bf N1 N2 w.heap.size v ∧ Blk W B bl w.heap.size bf N1 N2 ∧ Below w.heap.size w W := by
  subst hW hN1 hN2
  generalize ho1 : Obj.cells #[.pointer (some ⟨bl, 0, none⟩), .bool false] T1 = o1
  generalize ho2 : Obj.cells #[.pointer (some ⟨w.heap.size, 0, none⟩)] T2 = o2
  generalize ho3 : Obj.cells #[.func (.func g) #[] #[.pointer (some ⟨bf, 0, none⟩), .pointer (some ⟨w.heap.size + 1, 0, none⟩), .pointer (some ⟨w.heap.size + 1 + 1, 0, none⟩)]] T3 = o3
  have s1 : (w.alloc o1).heap.size = w.heap.size + 1 := by simp
  have s2 : ((w.alloc o1).alloc o2).heap.size = w.heap.size + 1 + 1 := by simp
  have s3 : (((w.alloc o1).alloc o2).alloc o3).heap.size = w.heap.size + 1 + 1 + 1 := by simp
  have b0 : Below w.heap.size w (((w.alloc o1).alloc o2).alloc o3) := (((Below.refl _ _).alloc (Nat.le_refl _) _).alloc (by omega) _).alloc (by omega) _
  have b1 : Below (w.alloc o1).heap.size (w.alloc o1) (((w.alloc o1).alloc o2).alloc o3) := ((Below.refl _ _).alloc (Nat.le_refl _) _).alloc (by omega) _
  have b2 : Below ((w.alloc o1).alloc o2).heap.size ((w.alloc o1).alloc o2) (((w.alloc o1).alloc o2).alloc o3) := (Below.refl _ _).alloc (Nat.le_refl _) _
  have n1 : (w.alloc o1).heap[w.heap.size]? = some o1 := heap_alloc_new w o1
  have n2 : ((w.alloc o1).alloc o2).heap[w.heap.size + 1]? = some o2 := by have := heap_alloc_new (w.alloc o1) o2; rwa [s1] at this
  have n3 : (((w.alloc o1).alloc o2).alloc o3).heap[w.heap.size + 1 + 1]? = some o3 := by have := heap_alloc_new ((w.alloc o1).alloc o2) o3; rwa [s2] at this
  subst ho1 ho2 ho3
  refine ⟨⟨?_, ?_, ?_, ?_, ?_⟩, ⟨?_, ?_, ?_⟩, ⟨hg, hB, by omega, by omega, hne, by omega, by omega, by omega, by omega, by omega, by omega, by omega, by omega, by omega, by omega⟩, b0⟩
  · exact (b0.cell (p := ⟨bl, 0, none⟩) hbl).trans h1
  · exact (b0.frozen (p := ⟨bl, 0, none⟩) hbl).trans h2
  · rw [b1.cell (p := ⟨w.heap.size, 0, none⟩) (by show w.heap.size < _; omega), cell_of_row _ _ _ _ _ (0, 0) n1]; rfl
  · rw [b1.cell (p := ⟨w.heap.size, 1, none⟩) (by show w.heap.size < _; omega), cell_of_row _ _ _ _ _ (0, 0) n1]; rfl
  · rw [b1.frozen (p := ⟨w.heap.size, 1, none⟩) (by show w.heap.size < _; omega)]; exact frozen_of_row _ _ _ _ _ n1
  · exact (b0.cell (p := ⟨bf, 0, none⟩) hbf).trans h3
  · rw [b2.cell (p := ⟨w.heap.size + 1, 0, none⟩) (by show w.heap.size + 1 < _; omega), cell_of_row _ _ _ _ _ (0, 0) n2]; rfl
  · rw [cell_of_row _ _ _ _ _ (0, 0) n3]; rfl
theorem used_all (a b : Nat) : (!(false || decide (a < b)) && decide (a - b = 0)) = decide (a = b) := by
  rw [Bool.false_or, Bool.eq_iff_iff]
  simp only [Bool.and_eq_true, Bool.not_eq_true', decide_eq_false_iff_not, decide_eq_true_eq]
  omega
set_option maxHeartbeats 1000000 in
theorem check_of (root : ByteArray) (n i : Int) (leaf : ByteArray) (A : Option Addr) (c k : Nat) (p : List ByteArray) (R : Bool) (hR : checkB root n i leaf p = R) (w : World) (he : Env w) (hk : p.length = k) (hk2 : k ≤ 1048576) (hps : ∀ s ∈ p, s.size ≤ 1073741824) (hleaf : leaf.size ≤ 1073741824) (hS : Strs w w.heap.size A p) :
    Calls Tryz.prog 49 #[.string root, .int .i64 n, .int .i64 i, .string leaf, .slice A k c] w fun e w' => e = .returned (.bool R) ∧ Below w.heap.size w w' := by
  have HR := hide hR; clear hR
  have HPS := hide hps; clear hps
  go_enter Tryz.func49, Tryz.ntmps49
  have hS1 : Strs (w.alloc (.cells #[.string leaf] 9)) (w.alloc (.cells #[.string leaf] 9)).heap.size A p := keepS hS ((Below.refl _ _).alloc (Nat.le_refl _) _)
  go_wp2_with fail
  refine (clone_any A k c p _ hk (by omega) hS1).mono ?_
  rintro e w2 ⟨v', rfl, ho, hb2⟩
  obtain ⟨A1, c1, rfl, hc1, hS2⟩ := ho.strs
  subst hk
  have hbf : w2.cell? ⟨w.heap.size, 0, none⟩ = some (.string leaf) := by
    rw [hb2.cell (p := ⟨w.heap.size, 0, none⟩) (by simp), cell_of_row _ _ _ _ _ (0, 0) (heap_alloc_new w _)]; rfl
  have hsz : w.heap.size < w2.heap.size := by have := hb2.size; simp at this; omega
  have hB := ((Below.refl _ w).alloc (Nat.le_refl _) (.cells #[.string leaf] 9)).trans (hb2.mono (by simp))
  clear ho hS1 hS hb2
  by_cases q1 : 1000000 < n
  · have q : checkB root n i leaf p = false := by unfold checkB; rw [decide_eq_false (by omega), Bool.false_and]
    have := q.symm.trans HR.out
    subst this
    go_wp2
    go_ret
    exact ⟨rfl, hB.alloc (by omega) _⟩
  by_cases q2 : i < 0
  · have q : checkB root n i leaf p = false := by unfold checkB; rw [decide_eq_false (by omega), Bool.false_and]
    have := q.symm.trans HR.out
    subst this
    go_wp2
    go_ret
    exact ⟨rfl, hB.alloc (by omega) _⟩
  by_cases q3 : n ≤ i
  · have q : checkB root n i leaf p = false := by unfold checkB; rw [decide_eq_false (by omega), Bool.false_and]
    have := q.symm.trans HR.out
    subst this
    go_wp2
    go_ret
    exact ⟨rfl, hB.alloc (by omega) _⟩
  obtain ⟨I, rfl⟩ : ∃ I : Nat, i = I := ⟨i.toNat, by omega⟩
  obtain ⟨N, rfl⟩ : ∃ N : Nat, n = N := ⟨n.toNat, by omega⟩
  have q4 : decide ((N : Int) ≤ 1000000 ∧ (0 : Int) ≤ I ∧ (I : Int) < N) = true := decide_eq_true (by omega)
  have hG := (he.next hB).lt
  have hE2 := he.next hB
  have o1 : N ≤ 1000000 := by omega
  have o2 : I < N := by omega
  clear q1 q2 q3
  go_wp2_with fail
  cases hd : allDig p with
  | false =>
    have q : checkB root N I leaf p = false := by unfold checkB; rw [hd, Bool.false_and, Bool.and_false]
    have := q.symm.trans HR.out
    subst this
    refine (proper_any A1 c1 p.length p false hd _ rfl (by omega) (fun s hs => by have := HPS.out s hs; omega) (keepS hS2 ((Below.refl _ _).alloc (Nat.le_refl _) _))).mono ?_
    rintro e w3 ⟨rfl, hb3⟩
    clear hd
    go_wp2
    go_ret
    exact ⟨rfl, bnextA hB hb3⟩
  | true =>
    refine (proper_any A1 c1 p.length p true hd _ rfl (by omega) (fun s hs => by have := HPS.out s hs; omega) (keepS hS2 ((Below.refl _ _).alloc (Nat.le_refl _) _))).mono ?_
    rintro e w3 ⟨rfl, hb3⟩
    have q : checkB root N I leaf p = (decide (p.length = Dg.length N I) && decide (Dg.up N I (Dg.leafB leaf) p.reverse = root)) := by
      unfold checkB; rw [hd, q4, Bool.true_and, Bool.true_and, Int.toNat_natCast, Int.toNat_natCast]
    have HR2 := hide (q.symm.trans HR.out); clear q q4
    have h16 := hide (allDig_16 hd); clear hd
    have hb32 : Below w2.heap.size w2 w3 := bnextA (Below.refl _ _) hb3
    have hsz3 := hb3.size
    simp only [World.size_alloc] at hsz3
    have x1 : w3.cell? ⟨w2.heap.size, 0, none⟩ = some (.slice A1 p.length c1) := by
      rw [hb3.cell (p := ⟨w2.heap.size, 0, none⟩) (by simp), cell_of_row _ _ _ _ _ (0, 0) (heap_alloc_new w2 _)]; rfl
    have x2 : w3.frozen? ⟨w2.heap.size, 0, none⟩ = false := by
      rw [hb3.frozen (p := ⟨w2.heap.size, 0, none⟩) (by simp)]; exact frozen_of_row _ _ _ _ _ (heap_alloc_new w2 _)
    have x3 : w3.cell? ⟨w.heap.size, 0, none⟩ = some (.string leaf) := (hb32.cell (p := ⟨w.heap.size, 0, none⟩) hsz).trans hbf
    obtain ⟨y1, y2, y3, y4⟩ := setup w3 89 122 119 123 w2.heap.size w2.heap.size w.heap.size c1 p.length A1 (.string leaf) x1 x2 x3 (by omega) (by omega) (by omega) (Nat.le_refl _) hG (w3.heap.size + 1) (w3.heap.size + 1 + 1) rfl rfl _ rfl
    have hB3 := hB.trans (hb32.mono hB.size)
    have hE3 := (hE2.next hb32).next y4
    have hS3 := (hS2.below hb32).below (y4.mono hb32.size)
    have Y1 := hide y1; have Y2 := hide y2; have Y3 := hide y3; have HS3 := hide hS3; have HE3 := hide hE3; have Y4 := hide y4
    clear y1 y2 y3 hS3 hE3 y4 x1 x2 x3 hbf hb3 hE2 hS2
    have hup := hide (fun (W : World) (a1 : Env W) (a2 : Blk W w2.heap.size w2.heap.size w3.heap.size w.heap.size (w3.heap.size + 1) (w3.heap.size + 1 + 1)) a3 a4 a5 => up_any w2.heap.size w2.heap.size w3.heap.size w.heap.size (w3.heap.size + 1) (w3.heap.size + 1 + 1) c1 A1 leaf p h16.out hc1 (by omega) hleaf N I p.length _ false _ _ W (by omega) o1 o2 (Nat.le_refl _) rfl rfl rfl a1 a2 a3 a4 a5)
    have hl := length_le N I
    rw [List.take_length] at hup
    go_wp2_with fail
    refine (hup.out _ HE3.out Y3.out Y1.out Y2.out HS3.out).mono ?_
    rintro e w4 ⟨rfl, hq, hm⟩
    have hB4 := (hB3.trans (Y4.out.mono hB3.size)).trans (hm.toBelow (by omega) (by omega) (by simp; omega))
    have hdone := hide (fun R hR => done_any w2.heap.size w3.heap.size A1 c1 (p.length - Dg.length N I) (false || decide (p.length < Dg.length N I)) R w4 hq (by omega) hR)
    have hcP := (Y2.out.mut Y3.out hm).P
    generalize hX : Dg.up N I (Dg.leafB leaf) p.reverse = X at *
    clear hX hup hq hm
    by_cases hx : X = root
    · have HH := HR2.out
      rw [decide_eq_true hx, Bool.and_true] at HH
      have t1 := tl_true hx
      have HH := hide HH
      subst hx
      go_wp2_with fail
      refine (hdone.out R ((used_all _ _).trans HH.out)).mono ?_
      rintro e w5 ⟨rfl, rfl⟩
      go_wp2
      go_ret
      exact ⟨rfl, hB4⟩
    · have HH := HR2.out
      rw [decide_eq_false hx, Bool.and_false] at HH
      subst HH
      have t1 := tl_false hx
      clear hx
      go_wp2
      go_ret
      exact ⟨rfl, hB4⟩
end Go.Proofs.YtobhpeockinnjaaGreatDoor
/- The closure of Extends of package tree. -/
namespace Go.Proofs.YtobhpeockinnjaaGreatDoor
open Go Go.RowKit Go.Sort
theorem PSt.drewN {w : World} {bl bp : Nat} {A : Option Addr} {c n : Nat} {sh : Bool} (h : PSt w bl bp A c n sh) (q : Nat) : PSt (w.drewN q) bl bp A c n sh := ⟨h.l, h.lf, h.p0, h.p1, h.pf⟩
end Go.Proofs.YtobhpeockinnjaaGreatDoor
/- Extends of package tree. -/
namespace Go.Proofs.YtobhpeockinnjaaGreatDoor
open Go Go.RowKit Go.Sort
theorem root_nil_of (w : World) (he : Env w) : Calls Tryz.prog 33 #[.slice none 0 0] w fun e w' => e = .returned (.string Dg.emptyB) ∧ Below w.heap.size w w' :=
  root_of 0 none 0 [] Dg.emptyB w rfl rfl he (Nat.le_refl _) (by omega) (by simp) (Strs.nil _ _ _)
end Go.Proofs.YtobhpeockinnjaaGreatDoor
/- Path of the reference. -/
namespace Go.Proofs.YtobhpeockinnjaaGreatDoor
open Go Go.RowKit Go.Sort
theorem OwnS.base {w : World} {B B' : Nat} {v : Value} {l : List ByteArray} (h : OwnS w B v l) (hB : B' ≤ B) : OwnS w B' v l := by
  obtain ⟨h1, h2⟩ := h
  refine ⟨h1, ?_⟩
  rcases h2 with h2 | ⟨g, cap, cur, hv, hg, hh, r⟩
  · exact Or.inl h2
  · exact Or.inr ⟨g, cap, cur, hv, by omega, hh, r⟩
theorem OwnS.alloc {w : World} {B : Nat} {v : Value} {l : List ByteArray} (h : OwnS w B v l) (o : Obj) : OwnS (w.alloc o) B v l := OwnV.alloc h o
theorem OwnS.drew {w : World} {B : Nat} {v : Value} {l : List ByteArray} (h : OwnS w B v l) : OwnS w.drew B v l := h
theorem new_cell (w : World) (v : Value) (T : TypeId) : (w.alloc (.cells #[v] T)).cell? ⟨w.heap.size, 0, none⟩ = some v := by
  rw [cell_of_row _ _ _ _ _ (0, 0) (heap_alloc_new w _)]; rfl
/-- The same at a step of a region that draws its order. -/
theorem step_cd {w : World} {ops : Array Oper} {o : Oper} {a : Act} {K : Act → World → Prop} {Q : Exit → Act → World → Prop} {E : Prop} (hgd : o.guard = none) (sl x : Operand)
    (ho : o.op = .call { callee := .builtin .append, args := #[sl, x], argTypes := #[27, 27] })
    (s : ByteArray) (B : Nat) (v : Value) (l : List ByteArray) (hs : a.eval sl = v) (hown : OwnS w B v l) (ad : Addr) (c : Nat) (hx : a.eval x = .slice (some ad) 1 c) (hc : w.cell? ad = some (.string s))
    (hlen : l.length < 1099511627776) (hB : B ≤ w.heap.size)
    (h : ∀ g cap w', OwnS w' B (.slice (some ⟨g, 0, none⟩) (l.length + 1) cap) (l ++ [s]) → Below B w w' → K (a.put o.dst (.slice (some ⟨g, 0, none⟩) (l.length + 1) cap)) w') :
    if Region.wanted o (yielded ops a.tmps) = true then Oper.wp Tryz.prog o a w K Q else E := by
  obtain ⟨i, h1, h2, h3, h4⟩ := info_parts strInfo
  unfold OwnS OwnV at hown
  rw [List.length_map] at hown
  refine step_append_lies w hgd sl x 27 ho B 9 i _ 1 16 Tryz.underlying27 h1 h2 h3 h4 rfl (by omega) v l.length _ hs hown ad 1 c [.string s] hx rfl ?_ ?_ (by omega) (by unfold maxLen; omega) (by omega) hB w.heap.size rfl fun g cap w' h5 h6 _ _ => h g cap w' ?_ (below_own hown h6 hB)
  · intro j u' hj
    rcases j with _ | j
    · obtain rfl : Value.string s = u' := by simpa using hj
      have : ad.add 0 = ad := by unfold Addr.add; simp
      rw [this]; exact hc
    · simp at hj
  · intro u' hu'
    obtain rfl : u' = Value.string s := by simpa using hu'
    rfl
  · unfold OwnS OwnV
    rw [List.length_map, List.length_append, List.map_append, List.length_singleton]
    exact h5
theorem Below.more {w W : World} (h : Below w.heap.size w W) (o : Obj) : Below w.heap.size w (W.alloc o) := h.alloc h.size o
theorem Below.news {w W : World} (_h : Below w.heap.size w W) (o : Obj) : Below W.heap.size W (W.alloc o) := (Below.refl _ _).alloc (Nat.le_refl _) o
set_option maxRecDepth 100000 in
set_option maxHeartbeats 1000000 in
theorem rpath_any (n : Nat) : ∀ (A : Option Addr) (c : Nat) (l : List ByteArray) (i : Nat) (w : World), l.length = n → n ≤ c → 1 ≤ n → i < n → n ≤ 1048576 → (∀ s ∈ l, s.size ≤ 1048576) → Strs w w.heap.size A l →
    Calls Tryz.prog 86 #[.slice A n c, .int .i64 i] w fun e w' => (∃ v, e = Ending.returned v ∧ OwnS w' w.heap.size v (Dg.path l i)) ∧ Below w.heap.size w w' := by
  induction n using Nat.strongRecOn with
  | _ n ih =>
  intro A c l i w hl hc h1 hi hn hs hS
  go_enter Tryz.func86, Tryz.ntmps86
  by_cases hone : n = 1
  · subst hone
    go_wp2
    go_ret
    rw [Dg.path_short l i (by omega)]
    exact ⟨⟨_, rfl, OwnS.nil _ _⟩, Below.refl _ _⟩
  · have g1 := Dg.half_pos n
    have g2 := Dg.half_lt n (by omega)
    have n1 : ((n : Int) == 1) = false := by simpa using (show ¬ (n : Int) = 1 by omega)
    have pf := hide (fun h => Dg.path_fst l i (by omega) h)
    have ps := hide (fun h => Dg.path_snd l i (by omega) h)
    rw [hl] at pf ps
    have HS := hide hs; clear hs
    have r1 := hide (fun (W : World) (g : Below w.heap.size w W) => (rroot_of (Dg.half n) A c (l.take (Dg.half n)) _ W (by rw [List.length_take]; omega) rfl (by omega) (by omega) (fun s hs' => HS.out s (List.mem_of_mem_take hs')) (keepS (hS.take _) g)))
    have r2 := hide (fun (W : World) (g : Below w.heap.size w W) => (rroot_of (n - Dg.half n) (offA A (Dg.half n) c) (c - Dg.half n) (l.drop (Dg.half n)) _ W (by rw [List.length_drop, hl]) rfl (by omega) (by omega) (fun s hs' => HS.out s (List.mem_of_mem_drop hs')) (keepS (hS.drop (by omega) _) g)))
    have p1 := hide (fun (W : World) (g : Below w.heap.size w W) (h : i < Dg.half n) => (ih (Dg.half n) g2 A c (l.take (Dg.half n)) i W (by rw [List.length_take]; omega) (by omega) g1 h (by omega) (fun s hs' => HS.out s (List.mem_of_mem_take hs')) (keepS (hS.take _) g)))
    have g4 : 1 ≤ n - Dg.half n := by omega
    have p2 := hide (fun (W : World) (g : Below w.heap.size w W) (h : ¬ i < Dg.half n) => (ih (n - Dg.half n) (by omega) (offA A (Dg.half n) c) (c - Dg.half n) (l.drop (Dg.half n)) (i - Dg.half n) W (by rw [List.length_drop, hl]) (by omega) g4 (by omega) (by omega) (fun s hs' => HS.out s (List.mem_of_mem_drop hs')) (keepS (hS.drop (by omega) _) g)))
    have e1 := hide (show (l.take (Dg.half n)).length = Dg.half n by rw [List.length_take]; omega)
    have e2 := hide (show (l.drop (Dg.half n)).length = n - Dg.half n by rw [List.length_drop]; omega)
    clear ih hS
    go_wp2_with fail
    refine (rhalf_any n (by omega) _).mono ?_
    rintro e w1 ⟨rfl, rfl⟩
    generalize Dg.half n = m at *
    have l1 : i < m → (Dg.path (l.take m) i).length ≤ 1048576 := fun h => by rw [Dg.path_len m _ _ e1.out h]; have := length_le m i; omega
    have l2 : ¬ i < m → (Dg.path (l.drop m) (i - m)).length ≤ 1048576 := fun h => by rw [Dg.path_len (n - m) _ _ e2.out (by omega)]; have := length_le (n - m) (i - m); omega
    have L1 := hide l1; have L2 := hide l2; clear l1 l2
    generalize Dg.root (l.take m) = X at *
    generalize Dg.root (l.drop m) = Y at *
    have s1 := slice_to A n c m (by omega)
    have s2 := slice_from A n c m (by omega)
    have hdr : Below w.heap.size w w.drew := (Below.refl _ _).drew
    by_cases him : i < m
    · have pl := L1.out him
      have P1 := hide (fun W (g : Below w.heap.size w W) => (p1.out W g him).mono fun e w' ⟨⟨v, h1, h2⟩, h3⟩ => (⟨⟨v, h1, h2.base g.size⟩, h3⟩ : (∃ v, e = Ending.returned v ∧ OwnS w' w.heap.size v (Dg.path (l.take m) i)) ∧ Below W.heap.size W w'))
      have PE := hide (pf.out him)
      generalize Dg.path (l.take m) i = q at *
      clear p1 p2 pf ps L1 L2
      go_wp2_with fail
      go_region_held3 (fun W => Below w.heap.size w W) (first | assumption | exact Below.more (by assumption) _)
        (first
          | (go_at_call 86; refine (P1.out _ (by first | assumption | exact Below.more (by assumption) _)).mono ?_; rintro e wP ⟨⟨v, rfl, hO⟩, hbP⟩; have hgP := bnext (by first | assumption | exact Below.more (by assumption) _) hbP)
          | (go_at_call 72; refine (r2.out _ (by first | assumption | exact Below.more (by assumption) _)).mono ?_; rintro e wR ⟨rfl, hbR⟩; have hgR := bnext (by first | assumption | exact Below.more (by assumption) _) hbR)
          | (refine step_cd rfl (.tmp 20) (.tmp 25) rfl Y w.heap.size v q rfl ((hO.below hbR).alloc _) ⟨wR.heap.size, 0, none⟩ 1 rfl (new_cell wR _ _) (by omega) (Below.more hgR _).size ?_; intro g cap wF hF hbF; have hgF := (Below.more hgR _).trans hbF)
          | (refine step_cd rfl (.tmp 20) (.tmp 25) rfl Y w.heap.size v q rfl (hO.alloc _) ⟨wP.heap.size, 0, none⟩ 1 rfl (new_cell wP _ _) (by omega) (Below.more hgP _).size ?_; intro g cap wF hF hbF; have hgF := (Below.more hgP _).trans hbF)
          | (refine step_cd rfl (.tmp 20) (.tmp 25) rfl Y w.heap.size v q rfl hO ⟨wR.heap.size, 0, none⟩ 1 rfl ((hbP.cell (p := ⟨wR.heap.size, 0, none⟩) (by simp)).trans (new_cell wR _ _)) (by omega) hgP.size ?_; intro g cap wF hF hbF; have hgF := hgP.trans hbF))
      all_goals go_wp2
      all_goals go_ret
      all_goals rw [PE.out]
      all_goals exact ⟨⟨_, rfl, hF⟩, hgF⟩
    · have pl := L2.out him
      have P2 := hide (fun W (g : Below w.heap.size w W) => (p2.out W g him).mono fun e w' ⟨⟨v, h1, h2⟩, h3⟩ => (⟨⟨v, h1, h2.base g.size⟩, h3⟩ : (∃ v, e = Ending.returned v ∧ OwnS w' w.heap.size v (Dg.path (l.drop m) (i - m))) ∧ Below W.heap.size W w'))
      have PE := hide (ps.out him)
      generalize Dg.path (l.drop m) (i - m) = q at *
      clear p1 p2 pf ps L1 L2
      have hwr : IntKind.i64.wrap ((i : Int) - (m : Int)) = ((i - m : Nat) : Int) := by rw [IntWalk.i64_in _ (by omega)]; omega
      go_wp2_with fail
      go_region_held3 (fun W => Below w.heap.size w W) (first | assumption | exact Below.more (by assumption) _)
        (first
          | (go_at_call 86; refine (P2.out _ (by first | assumption | exact Below.more (by assumption) _)).mono ?_; rintro e wP ⟨⟨v, rfl, hO⟩, hbP⟩; have hgP := bnext (by first | assumption | exact Below.more (by assumption) _) hbP)
          | (go_at_call 72; refine (r1.out _ (by first | assumption | exact Below.more (by assumption) _)).mono ?_; rintro e wR ⟨rfl, hbR⟩; have hgR := bnext (by first | assumption | exact Below.more (by assumption) _) hbR)
          | (refine step_cd rfl (.tmp 33) (.tmp 38) rfl X w.heap.size v q rfl ((hO.below hbR).alloc _) ⟨wR.heap.size, 0, none⟩ 1 rfl (new_cell wR _ _) (by omega) (Below.more hgR _).size ?_; intro g cap wF hF hbF; have hgF := (Below.more hgR _).trans hbF)
          | (refine step_cd rfl (.tmp 33) (.tmp 38) rfl X w.heap.size v q rfl (hO.alloc _) ⟨wP.heap.size, 0, none⟩ 1 rfl (new_cell wP _ _) (by omega) (Below.more hgP _).size ?_; intro g cap wF hF hbF; have hgF := (Below.more hgP _).trans hbF)
          | (refine step_cd rfl (.tmp 33) (.tmp 38) rfl X w.heap.size v q rfl hO ⟨wR.heap.size, 0, none⟩ 1 rfl ((hbP.cell (p := ⟨wR.heap.size, 0, none⟩) (by simp)).trans (new_cell wR _ _)) (by omega) hgP.size ?_; intro g cap wF hF hbF; have hgF := hgP.trans hbF))
      all_goals clear hwr
      all_goals go_wp2
      all_goals go_ret
      all_goals rw [PE.out]
      all_goals exact ⟨⟨_, rfl, hF⟩, hgF⟩
end Go.Proofs.YtobhpeockinnjaaGreatDoor
/- Path and Link of the reference. -/
namespace Go.Proofs.YtobhpeockinnjaaGreatDoor
open Go Go.RowKit Go.Sort
theorem rPath_any (A : Option Addr) (c n : Nat) (l : List ByteArray) (i : Nat) (w : World) (hl : l.length = n) (hc : n ≤ c) (hn : n ≤ 1048576) (hs : ∀ s ∈ l, s.size ≤ 1048576) (hS : Strs w w.heap.size A l) (hi : i < n) :
    Calls Tryz.prog 46 #[.slice A n c, .int .i64 i] w fun e w' => ∃ A c n, e = .returned (.tuple #[.slice A n c, .int .i64 0]) ∧ (Dg.path l i).length = n ∧ n ≤ c ∧ Strs w' w'.heap.size A (Dg.path l i) ∧ Below w.heap.size w w' := by
  have HP := hide (rpath_any n A c l i w hl hc (by omega) hi hn hs hS)
  clear hs
  generalize Dg.path l i = q at *
  have k1 : ¬ (n ≤ i) := by omega
  have k2 : ¬ ((i : Int) < 0) := by omega
  have k3 : ¬ ((n : Int) ≤ (i : Int)) := by omega
  go_enter Tryz.func46, Tryz.ntmps46
  go_wp2_with fail
  refine HP.out.mono ?_
  rintro e w1 ⟨⟨v, rfl, hO⟩, hb⟩
  obtain ⟨A1, c1, rfl, hc1, hS1⟩ := hO.strs
  clear hO HP
  go_wp2
  go_ret2
  exact ⟨_, _, _, rfl, rfl, hc1, hS1, hb⟩
end Go.Proofs.YtobhpeockinnjaaGreatDoor
/- Check, long, both and Extends of the reference. -/
namespace Go.Proofs.YtobhpeockinnjaaGreatDoor
open Go Go.RowKit Go.Sort
theorem ieq_t {a b : Int} (h : a = b) : (a == b) = true := beq_iff_eq.2 h
theorem ine_f {a b : Int} (h : a = b) : (a != b) = false := by rw [bne, ieq_t h]; rfl
theorem ieq_f {a b : Int} (h : a ≠ b) : (a == b) = false := beq_eq_false_iff_ne.2 h
theorem ine_t {a b : Int} (h : a ≠ b) : (a != b) = true := by rw [bne, ieq_f h]; rfl
set_option maxHeartbeats 400000 in
theorem rcheck_of (root : ByteArray) (n i : Int) (leaf : ByteArray) (A : Option Addr) (c k : Nat) (p : List ByteArray) (R : Bool) (hR : checkB root n i leaf p = R) (w : World) (hk : p.length = k) (hk2 : k ≤ 1048576) (hkc : k ≤ c) (hps : ∀ s ∈ p, s.size ≤ 1048576) (hleaf : leaf.size ≤ 1048576) (hS : Strs w w.heap.size A p) :
    Calls Tryz.prog 51 #[.string root, .int .i64 n, .int .i64 i, .string leaf, .slice A k c] w fun e w' => e = .returned (.bool R) ∧ Below w.heap.size w w' := by
  have HR := hide hR; clear hR
  have HPS := hide hps; clear hps
  go_enter Tryz.func51, Tryz.ntmps51
  by_cases q1 : 1000000 < n
  · have q : checkB root n i leaf p = false := by unfold checkB; rw [decide_eq_false (by omega), Bool.false_and]
    have := q.symm.trans HR.out
    subst this
    go_wp2
    go_ret
    exact ⟨rfl, Below.refl _ _⟩
  by_cases q2 : i < 0
  · have q : checkB root n i leaf p = false := by unfold checkB; rw [decide_eq_false (by omega), Bool.false_and]
    have := q.symm.trans HR.out
    subst this
    go_wp2
    go_ret
    exact ⟨rfl, Below.refl _ _⟩
  by_cases q3 : n ≤ i
  · have q : checkB root n i leaf p = false := by unfold checkB; rw [decide_eq_false (by omega), Bool.false_and]
    have := q.symm.trans HR.out
    subst this
    go_wp2
    go_ret
    exact ⟨rfl, Below.refl _ _⟩
  obtain ⟨I, rfl⟩ : ∃ I : Nat, i = I := ⟨i.toNat, by omega⟩
  obtain ⟨N, rfl⟩ : ∃ N : Nat, n = N := ⟨n.toNat, by omega⟩
  have q4 : decide ((N : Int) ≤ 1000000 ∧ (0 : Int) ≤ I ∧ (I : Int) < N) = true := decide_eq_true (by omega)
  have o1 : N ≤ 1000000 := by omega
  have o2 : I < N := by omega
  clear q1 q2 q3
  have HQ : Hid ((allDig p && (decide (p.length = Dg.length N I) && decide (Dg.up N I (Dg.leafB leaf) p.reverse = root))) = R) := by
    have := HR.out
    unfold checkB at this
    rw [q4, Bool.true_and, Int.toNat_natCast, Int.toNat_natCast] at this
    exact this
  clear HR q4
  subst hk
  go_wp2_with fail
  have hl := length_le N I
  have hup := hide (fun (W : World) (h : p.length = Dg.length N I) (hST : Strs W W.heap.size A p) => rup_any N I A c p.length (Dg.leafB leaf) p _ W rfl h.symm rfl (by omega) o2 (by omega) hkc (by rw [Dg.leafB, listB_size]; decide) HPS.out hST)
  refine (rlength_any N I _ _ rfl (by omega) o2 (by omega)).mono ?_
  rintro e w1 ⟨rfl, rfl⟩
  by_cases he : p.length = Dg.length N I
  · have he' := hide he
    generalize hL : Dg.length N I = L at *
    have e1 : ((p.length : Int) == (L : Int)) = true := ieq_t (by omega)
    have e2 : ((p.length : Int) != (L : Int)) = false := ine_f (by omega)
    clear hL he
    go_wp2_with fail
    cases hd : allDig p with
    | false =>
      have q := HQ.out
      rw [hd, Bool.false_and] at q
      subst q
      refine (rdigests_any A c p.length p false hd _ rfl (by omega) (fun s hs => by have := HPS.out s hs; omega) hS).mono ?_
      rintro e w2 ⟨rfl, hb⟩
      clear hd
      go_wp2
      go_ret
      exact ⟨rfl, hb⟩
    | true =>
      have q := HQ.out
      rw [hd, decide_eq_true he'.out, Bool.true_and, Bool.true_and] at q
      have HQ2 := hide q; clear q HQ
      refine (rdigests_any A c p.length p true hd _ rfl (by omega) (fun s hs => by have := HPS.out s hs; omega) hS).mono ?_
      rintro e w2 ⟨rfl, hb⟩
      clear hd
      go_wp2_with fail
      refine (rleaf_any leaf hleaf _).mono ?_
      rintro e w3 ⟨rfl, hb3⟩
      have hb4 := bnext hb hb3
      have hU := hide (hup.out w3 he'.out (keepS hS hb4))
      generalize Dg.up N I (Dg.leafB leaf) p.reverse = X at *
      clear hup hS
      go_wp2_with fail
      refine hU.out.mono ?_
      rintro e w4 ⟨rfl, hb5⟩
      have hb6 := bnext hb4 hb5
      by_cases hx : X = root
      · have t1 := tl_true hx
        have q := HQ2.out
        rw [decide_eq_true hx] at q
        subst q hx
        go_wp2
        go_ret
        exact ⟨rfl, hb6⟩
      · have t1 := tl_false hx
        have q := HQ2.out
        rw [decide_eq_false hx] at q
        subst q
        clear hx
        go_wp2
        go_ret
        exact ⟨rfl, hb6⟩
  · have q := HQ.out
    rw [decide_eq_false he, Bool.false_and, Bool.and_false] at q
    subst q
    generalize hL : Dg.length N I = L at *
    have e1 : ((p.length : Int) == (L : Int)) = false := ieq_f (by omega)
    have e2 : ((p.length : Int) != (L : Int)) = true := ine_t (by omega)
    clear hL he hup
    go_wp2
    go_ret
    exact ⟨rfl, Below.refl _ _⟩
end Go.Proofs.YtobhpeockinnjaaGreatDoor
/- Extends of the reference. -/
namespace Go.Proofs.YtobhpeockinnjaaGreatDoor
open Go Go.RowKit Go.Sort
end Go.Proofs.YtobhpeockinnjaaGreatDoor
/- Texts of the reference: the strings that are digested for a root. -/
namespace Go.Proofs.YtobhpeockinnjaaGreatDoor
open Go Go.RowKit Go.Sort
theorem add_off0 (g j : Nat) : (⟨g, 0, none⟩ : Addr).add j = ⟨g, j, none⟩ := by rw [addr_off, Nat.zero_add]
/-- A slice of the call's own that is not empty. -/
theorem OwnS.full {w : World} {B : Nat} {v : Value} {l : List ByteArray} (h : OwnS w B v l) (h0 : 0 < l.length) : ∃ g cap, v = .slice (some ⟨g, 0, none⟩) l.length cap ∧ B ≤ g ∧ g < w.heap.size := by
  rcases h.cases with ⟨_, rfl⟩ | ⟨g, cap, h1, h2, h3, _⟩
  · simp at h0
  · exact ⟨g, cap, h1, h2, h3⟩
theorem OwnS.getc {w : World} {B g n cap : Nat} {l : List ByteArray} (h : OwnS w B (.slice (some ⟨g, 0, none⟩) n cap) l) : ∀ j (s : ByteArray), l[j]? = some s → w.cell? ⟨g, j, none⟩ = some (.string s) := by
  rcases h.cases with ⟨h, _⟩ | ⟨g', cap', h1, h2, h3, _, h4, _⟩
  · injection h with h _ _; cases h
  · injection h1 with h1 _ _
    injection h1 with h1
    injection h1 with h1 _ _
    subst h1
    exact h4
end Go.Proofs.YtobhpeockinnjaaGreatDoor
/- Lists of strings of the call's own: more laws. No conditions. -/
namespace Go.Proofs.YtobhpeockinnjaaGreatDoor
open Go Go.RowKit Go.Sort
theorem OwnS.bounds {w : World} {B g n cap : Nat} {l : List ByteArray} (h : OwnS w B (.slice (some ⟨g, 0, none⟩) n cap) l) : B ≤ g ∧ g < w.heap.size := by
  rcases h.cases with ⟨h, _⟩ | ⟨g', cap', h1, h2, h3, _, _, _⟩
  · injection h with h _ _; cases h
  · injection h1 with h1 _ _
    injection h1 with h1
    injection h1 with h1 _ _
    subst h1
    exact ⟨h2, h3⟩
/-! A literal's cell behind an append that may have written another row of the call's own. -/
end Go.Proofs.YtobhpeockinnjaaGreatDoor
/- Appends of lists of strings where the operation is wanted. No conditions. -/
namespace Go.Proofs.YtobhpeockinnjaaGreatDoor
open Go Go.RowKit Go.Sort
theorem wpList_wanted {P : Program} {ops : Array Oper} {Q : Exit → Act → World → Prop} {a : Act} {w : World} {rest : List Oper} {o : Oper} (hw : Region.wanted o (yielded ops a.tmps) = true)
    (h : ∀ K : Act → World → Prop, (∀ a w, wpList P ops Q rest a w → K a w) → o.wp P a w K Q) : wpList P ops Q (o :: rest) a w :=
  wpList_step fun K hK => by rw [if_pos hw]; exact h K hK
end Go.Proofs.YtobhpeockinnjaaGreatDoor
/- Appends once more: whatever slice of strings, where the operation is wanted. -/
namespace Go.Proofs.YtobhpeockinnjaaGreatDoor
open Go Go.RowKit Go.Sort
theorem run_append_none {P : Program} {w : World} (base : Nat) (t ty e : TypeId) (i : TypeInfo) (size : Nat) (ht : P.underlying t = some (.slice e)) (hi : P.info? e = some i) (v : Value) (n : Nat) (xs : List Value) (hown : w.ownsRow base e size v n xs) (c : Nat) :
    (Builtin.append_ #[t, t] ty #[v, .slice none 0 c]).run P w = .ok v w := by
  rcases hown.2 with ⟨rfl, rfl⟩ | ⟨g, cap, cur, rfl, _, _, hnc, _⟩
  · simp [Builtin.append_, run_underlying ht, sizeOf, typeInfo, hi, Builtin.lenOf, Builtin.firstCells]
  · simp [Builtin.append_, run_underlying ht, sizeOf, typeInfo, hi, Builtin.lenOf, Builtin.firstCells, hnc, storeCells]
/-- A slice of strings, whatever it is, onto strings of the call's own. -/
theorem wp_ad {w : World} {o : Oper} {a : Act} {K : Act → World → Prop} {Q : Exit → Act → World → Prop} (sl x : Operand)
    (ho : o.op = .call { callee := .builtin .append, args := #[sl, x], argTypes := #[27, 27] })
    (B B' : Nat) (v : Value) (l l' : List ByteArray) (hs : a.eval sl = v) (hown : OwnS w B v l) (A : Option Addr) (n cap : Nat) (hn : l'.length = n) (hx : a.eval x = .slice A n cap) (hS : Strs w B' A l')
    (hlen : l.length + n < 1099511627776) (hB : B ≤ w.heap.size)
    (h : ∀ v' w', OwnS w' B v' (l ++ l') → Below B w w' → w.grownBy w' v.ownBlock → K (a.put o.dst v') w') : o.wp Tryz.prog a w K Q := by
  subst hn
  obtain ⟨i, h1, h2, h3, h4⟩ := info_parts strInfo
  have hown' := hown
  unfold OwnS OwnV at hown
  rw [List.length_map] at hown
  cases A with
  | none =>
    have h0 : l' = [] := by
      cases l' with
      | nil => rfl
      | cons y r =>
        obtain ⟨b, off, e, _⟩ := hS.at_ (by simp)
        cases e
    subst h0
    have hrun := run_append_none (P := Tryz.prog) B 27 o.type 9 i 1 Tryz.underlying27 h1 v l.length _ hown cap
    unfold Oper.wp execOp
    simp only [ho, resolve, invoke, builtin, Sem.run_bind, Sem.run_pure, Result.andThen_ok, List.map_toArray, List.map_cons, List.map_nil, hs, hx, List.length_nil, hrun]
    exact h v w (by rw [List.append_nil]; exact hown') (Below.refl _ _) (World.grownBy.refl w _)
  | some ad =>
    obtain ⟨v', w', hr, h5, h6, _, _⟩ := run_append_own_at (P := Tryz.prog) w B 27 o.type 9 i _ 1 16 Tryz.underlying27 h1 h2 h3 h4 rfl (by omega) v l.length _ hown ad l'.length cap (l'.map .string) (by rw [List.length_map, Nat.mul_one]) (fun j u hj => by
      rw [List.getElem?_map] at hj
      cases hq : l'[j]? with
      | none => rw [hq] at hj; cases hj
      | some s =>
        rw [hq] at hj
        obtain rfl : Value.string s = u := by simpa using hj
        obtain ⟨b, off, e, _, hc⟩ := hS.at_ (by have := (List.getElem?_eq_some_iff.1 hq).1; omega)
        cases e
        rw [addr_off]
        exact hc j s hq) (fun u hu => by obtain ⟨s, _, rfl⟩ := List.mem_map.1 hu; rfl) (by unfold maxLen; omega) (by omega) hB
    unfold Oper.wp execOp
    simp only [ho, resolve, invoke, builtin, Sem.run_bind, Sem.run_pure, Result.andThen_ok, List.map_toArray, List.map_cons, List.map_nil, hs, hx, hr]
    refine h v' w' ?_ (below_own hown h6 hB) h6
    unfold OwnS OwnV
    rw [List.length_map, List.length_append, List.map_append]
    exact h5
theorem OwnS.grown {w w' : World} {B g n cap ga : Nat} {l : List ByteArray} (h : OwnS w B (.slice (some ⟨g, 0, none⟩) n cap) l) (hg : w.grownBy w' (some ga)) (hne : ga ≠ g) : OwnS w' B (.slice (some ⟨g, 0, none⟩) n cap) l := by
  have hb := h.bounds
  obtain ⟨h1, h2⟩ := h
  refine ⟨h1, ?_⟩
  rcases h2 with ⟨h2, _⟩ | ⟨g', cap', cur, hv, hB, hh, r⟩
  · injection h2 with h2 _ _; cases h2
  · have hv' := hv
    injection hv with hv _ _
    injection hv with hv
    injection hv with hv _ _
    subst hv
    exact Or.inr ⟨g, cap', cur, hv', hB, by rw [hg.block g hb.2 (fun e => hne (Option.some.inj e).symm)]; exact hh, r⟩
end Go.Proofs.YtobhpeockinnjaaGreatDoor
/- Several slices of the call's own at once, in blocks apart: appends to one of them leave the others. Elements of one cell. No conditions. -/
namespace Go.Proofs.YtobhpeockinnjaaGreatDoor
open Go Go.RowKit Go.Sort
/-- The slices rs (value, element type, cells) are the call's own from block B on, and lie in blocks apart. -/
structure OwnL (W : World) (B : Nat) (rs : List (Value × TypeId × List Value)) : Prop where
  own : ∀ r ∈ rs, OwnV W B r.2.1 r.1 r.2.2
  apart : rs.Pairwise fun a b => ∀ g, a.1.ownBlock = some g → b.1.ownBlock ≠ some g
/-- A row of strings. -/
def sR (v : Value) (l : List ByteArray) : Value × TypeId × List Value := (v, 9, l.map .string)
theorem OwnV.lt {W : World} {B g : Nat} {e : TypeId} {v : Value} {xs : List Value} (h : OwnV W B e v xs) (hg : v.ownBlock = some g) : B ≤ g ∧ g < W.heap.size := by
  rcases h.2 with ⟨rfl, _⟩ | ⟨g', cap, cur, rfl, hb, hh, _⟩
  · simp [Value.ownBlock] at hg
  · obtain rfl : g' = g := by simpa [Value.ownBlock] using hg
    exact ⟨hb, (Array.getElem?_eq_some_iff.1 hh).1⟩
theorem OwnL.nil (W : World) (B : Nat) : OwnL W B [] := ⟨fun _ h => (by cases h), List.Pairwise.nil⟩
theorem OwnL.below {W W' : World} {B : Nat} {rs : List (Value × TypeId × List Value)} (h : OwnL W B rs) (hb : Below W.heap.size W W') : OwnL W' B rs :=
  ⟨fun r hr => (h.own r hr).below hb, h.apart⟩
theorem OwnL.perm {W : World} {B : Nat} {rs rs' : List (Value × TypeId × List Value)} (h : OwnL W B rs) (hp : rs.Perm rs') : OwnL W B rs' :=
  ⟨fun r hr => h.own r (hp.mem_iff.2 hr), (hp.pairwise_iff fun hab g hg he => hab g he hg).1 h.apart⟩
theorem OwnL.tail {W : World} {B : Nat} {r : Value × TypeId × List Value} {rs : List (Value × TypeId × List Value)} (h : OwnL W B (r :: rs)) : OwnL W B rs :=
  ⟨fun x hx => h.own x (List.mem_cons_of_mem _ hx), (List.pairwise_cons.1 h.apart).2⟩
theorem OwnL.head {W : World} {B : Nat} {v : Value} {e : TypeId} {xs : List Value} {rs : List (Value × TypeId × List Value)} (h : OwnL W B ((v, e, xs) :: rs)) : OwnV W B e v xs := h.own _ (List.mem_cons_self ..)
theorem OwnL.headS {W : World} {B : Nat} {v : Value} {l : List ByteArray} {rs : List (Value × TypeId × List Value)} (h : OwnL W B (sR v l :: rs)) : OwnS W B v l := h.own _ (List.mem_cons_self ..)
theorem OwnL.swap {W : World} {B : Nat} {a b : Value × TypeId × List Value} {rs : List (Value × TypeId × List Value)} (h : OwnL W B (a :: b :: rs)) : OwnL W B (b :: a :: rs) := h.perm (List.Perm.swap ..)
/-- A new row: empty, without a block. -/
theorem OwnL.empty {W : World} {B : Nat} {rs : List (Value × TypeId × List Value)} (h : OwnL W B rs) (e : TypeId) : OwnL W B ((.slice none 0 0, e, []) :: rs) :=
  ⟨fun r hr => by
    rcases List.mem_cons.1 hr with rfl | hr
    · exact OwnV.nil W B e
    · exact h.own r hr, List.pairwise_cons.2 ⟨fun b _ g hg => by simp [Value.ownBlock] at hg, h.apart⟩⟩
theorem OwnL.emptyS {W : World} {B : Nat} {rs : List (Value × TypeId × List Value)} (h : OwnL W B rs) : OwnL W B (sR (.slice none 0 0) [] :: rs) := h.empty _
/-- A row that a callee has made. -/
theorem OwnL.made {W W' : World} {B : Nat} {rs : List (Value × TypeId × List Value)} {v : Value} {e : TypeId} {xs : List Value} (h : OwnL W B rs) (hB : B ≤ W.heap.size) (hb : Below W.heap.size W W') (hv : OwnV W' W.heap.size e v xs) : OwnL W' B ((v, e, xs) :: rs) :=
  ⟨fun r hr => by
    rcases List.mem_cons.1 hr with rfl | hr
    · refine ⟨hv.1, ?_⟩
      rcases hv.2 with h1 | ⟨g, cap, cur, h1, h2, h3⟩
      · exact Or.inl h1
      · exact Or.inr ⟨g, cap, cur, h1, Nat.le_trans hB h2, h3⟩
    · exact (h.own r hr).below hb, List.pairwise_cons.2 ⟨fun b hb' g hg he => by
      have h1 := (hv.lt hg).1
      have h2 := ((h.own b hb').lt he).2
      omega, h.apart⟩⟩
/-- Behind an append to the first row. -/
theorem OwnL.app {W W' : World} {B : Nat} {rs : List (Value × TypeId × List Value)} {v v' : Value} {e : TypeId} {xs ys : List Value} (h : OwnL W B ((v, e, xs) :: rs)) (hv : OwnV W' B e v' ys) (hg : W.grownBy W' v.ownBlock) (hat : v'.ownBlock = v.ownBlock ∨ v'.ownBlock = some W.heap.size) : OwnL W' B ((v', e, ys) :: rs) := by
  obtain ⟨h1, h2⟩ := List.pairwise_cons.1 h.apart
  refine ⟨fun r hr => ?_, List.pairwise_cons.2 ⟨fun b hb' g hg' he => ?_, h2⟩⟩
  · rcases List.mem_cons.1 hr with rfl | hr
    · exact hv
    · have h3 := h.own r (List.mem_cons_of_mem _ hr)
      refine World.ownsRow.kept h3 hg ?_
      cases ho : v.ownBlock with
      | none =>
        cases hr2 : r.1.ownBlock with
        | none => exact Or.inl rfl
        | some g => exact Or.inr (by simp)
      | some g => exact Or.inr (h1 r hr g ho)
  · rcases hat with h3 | h3
    · exact h1 b hb' g (h3.symm.trans hg') he
    · rw [h3] at hg'
      cases hg'
      have := ((h.own b (List.mem_cons_of_mem _ hb')).lt he).2
      omega
/-- What is appended: cells that lie in a row, or none. -/
def Src (w : World) (A : Option Addr) (news : List Value) : Prop := (news = [] ∨ ∃ b off, A = some ⟨b, off, none⟩ ∧ ∀ (j : Nat) u, news[j]? = some u → w.cell? ⟨b, off + j, none⟩ = some u) ∧ ∀ u ∈ news, u.oneCell' = true
theorem Src.strs {w : World} {B : Nat} {A : Option Addr} {l : List ByteArray} (h : Strs w B A l) : Src w A (l.map .string) := by
  refine ⟨?_, fun u hu => by obtain ⟨s, _, rfl⟩ := List.mem_map.1 hu; rfl⟩
  rcases Nat.eq_zero_or_pos l.length with h0 | h0
  · exact Or.inl (by rw [List.length_eq_zero_iff.1 h0]; rfl)
  · obtain ⟨b, off, e, _, hc⟩ := h.at_ h0
    refine Or.inr ⟨b, off, e, fun j u hj => ?_⟩
    rw [List.getElem?_map] at hj
    cases hq : l[j]? with
    | none => rw [hq] at hj; cases hj
    | some s => rw [hq] at hj; cases hj; exact hc j s hq
theorem Src.lit (w : World) (cs : Array Value) (T : TypeId) (h1 : ∀ u ∈ cs.toList, u.oneCell' = true) : Src (w.alloc (.cells cs T)) (some ⟨w.heap.size, 0, none⟩) cs.toList :=
  ⟨Or.inr ⟨_, _, rfl, fun j u hj => by rw [cell_of_row _ _ _ _ _ (0, 0) (heap_alloc_new w _), Nat.zero_add, ← Array.getElem?_toList]; exact hj⟩, h1⟩
/-- An append to the first row. -/
theorem wp_al {w : World} {o : Oper} {a : Act} {K : Act → World → Prop} {Q : Exit → Act → World → Prop} (sl x : Operand) (t e : TypeId) (z : Value) (bytes : Nat)
    (ho : o.op = .call { callee := .builtin .append, args := #[sl, x], argTypes := #[t, t] })
    (ht : Tryz.prog.underlying t = some (.slice e)) (hi : (Tryz.prog.info? e).map (fun i => (i.zero, i.size, i.bytes)) = some (some z, 1, bytes)) (hz : z.cells.size = 1) (hby : bytes ≤ 64)
    (B : Nat) (v : Value) (xs : List Value) (rs : List (Value × TypeId × List Value)) (hs : a.eval sl = v) (hL : OwnL w B ((v, e, xs) :: rs)) (A : Option Addr) (n cap : Nat) (news : List Value) (hx : a.eval x = .slice A n cap) (hn : news.length = n) (hsrc : Src w A news)
    (hlen : xs.length + n ≤ 1099511627776) (hB : B ≤ w.heap.size)
    (h : ∀ v' w', OwnL w' B ((v', e, xs ++ news) :: rs) → Below B w w' → K (a.put o.dst v') w') : o.wp Tryz.prog a w K Q := by
  subst hn
  obtain ⟨i, h1, h2, h3, h4⟩ := info_parts hi
  have hown := hL.head
  unfold OwnV at hown
  have hrun0 : ∀ c, (Builtin.append_ #[t, t] o.type #[v, .slice none 0 c]).run Tryz.prog w = .ok v w := fun c => run_append_none (P := Tryz.prog) B t o.type e i 1 ht h1 v xs.length _ hown c
  have key : ∃ v' w', (Builtin.append_ #[t, t] o.type #[v, .slice A news.length cap]).run Tryz.prog w = .ok v' w' ∧ OwnL w' B ((v', e, xs ++ news) :: rs) ∧ Below B w w' := by
    cases A with
    | none =>
      have h0 : news = [] := by
        rcases hsrc.1 with h0 | ⟨_, _, h0, _⟩
        · exact h0
        · cases h0
      subst h0
      exact ⟨v, w, hrun0 cap, by rw [List.append_nil]; exact hL, Below.refl _ _⟩
    | some ad =>
      obtain ⟨v', w', hr, h5, h6, _, h7⟩ := run_append_own_at (P := Tryz.prog) w B t o.type e i z 1 bytes ht h1 h2 h3 h4 hz (by omega) v xs.length xs hown ad news.length cap news (by rw [Nat.mul_one]) (fun j u hj => by
        rcases hsrc.1 with h0 | ⟨b, off, h0, hc⟩
        · rw [h0] at hj; cases hj
        · cases h0
          rw [addr_off]
          exact hc j u hj) hsrc.2 (by unfold maxLen; omega) (by
            have : (xs.length + news.length) * bytes ≤ 1099511627776 * 64 := Nat.mul_le_mul hlen hby
            omega) hB
      refine ⟨v', w', hr, hL.app ?_ h6 h7, below_own hown h6 hB⟩
      unfold OwnV
      rw [List.length_append]
      exact h5
  obtain ⟨v', w', hrun, h5, h6⟩ := key
  unfold Oper.wp execOp
  simp only [ho, resolve, invoke, builtin, Sem.run_bind, Sem.run_pure, Result.andThen_ok, List.map_toArray, List.map_cons, List.map_nil, hs, hx, hrun]
  exact h v' w' h5 h6
end Go.Proofs.YtobhpeockinnjaaGreatDoor
/- Codes of law in plain Lean: items, what a walk of them keeps open, validity. No program in sight. -/
namespace Go.Proofs.YtobhpeockinnjaaGreatDoor.Dg
open Go
structure It where
  kind : Int
  id : ByteArray
  parent : ByteArray
  number : ByteArray
  north : ByteArray
  south : ByteArray
  gone : Bool
def nil8 : ByteArray := ⟨#[]⟩
def letterB (c : UInt8) : Bool := (97 ≤ c && c ≤ 122) || (65 ≤ c && c ≤ 90)
def digitB (c : UInt8) : Bool := (48 ≤ c && c ≤ 57) || c == 95
/-- A name. -/
def nameL : List UInt8 → Bool
  | [] => false
  | c :: r => letterB c && r.all fun d => letterB d || digitB d
def isNameB (s : ByteArray) : Bool := nameL (L s) && decide (s.size ≤ 24)
def numC (c : UInt8) : Bool := (48 ≤ c && c ≤ 57) || (97 ≤ c && c ≤ 122)
def isNumB (s : ByteArray) : Bool := decide (s.size ≤ 8) && (L s).all numC
/-- An item apart from its place. -/
def properI (x : It) : Bool :=
  if x.kind = 1 then isNumB x.number && (isNameB x.id && (decide (x.north = nil8) && (decide (x.south = nil8) && !x.gone)))
  else if x.kind = 2 then isNumB x.number && (isNameB x.id && (decide (x.north.size ≤ 400) && decide (x.south.size ≤ 400)))
  else false
def inB (l : List ByteArray) (x : ByteArray) : Bool := l.any fun d => decide (d = x)
theorem inB_iff (l : List ByteArray) (x : ByteArray) : inB l x = true ↔ x ∈ l := by
  unfold inB
  rw [List.any_eq_true]
  constructor
  · rintro ⟨d, hd, h⟩
    rw [of_decide_eq_true h] at hd
    exact hd
  · intro h
    exact ⟨x, h, decide_eq_true rfl⟩
theorem inB_no (l : List ByteArray) (x : ByteArray) : inB l x = false ↔ x ∉ l := by
  rw [← inB_iff]; simp
/-- How many of the open divisions stay open for an item. -/
def kOf (op : List ByteArray) (p : ByteArray) : Option Nat := if p = nil8 then some 0 else if inB op p = true then some (op.findIdx (fun d => decide (d = p)) + 1) else none
/-- What a walk has seen, and what is open. -/
structure Wk where
  seen : List ByteArray
  op : List ByteArray
/-- One item: none where the code is not valid. The open divisions at its visit come with it. -/
def stepI (s : Wk) (x : It) : Option (List ByteArray × Wk) :=
  if properI x = true ∧ inB s.seen x.id = false then
    match kOf s.op x.parent with
    | none => none
    | some k => some (s.op.take k, ⟨x.id :: s.seen, if x.kind = 1 then s.op.take k ++ [x.id] else s.op.take k⟩)
  else none
/-- The walk over the first k items: the state, and the open divisions at each visit. -/
def walkTo (l : List It) : Nat → Option (List (List ByteArray) × Wk)
  | 0 => some ([], ⟨[], []⟩)
  | k + 1 => match walkTo l k with
    | none => none
    | some (vs, s) => match l[k]? with
      | none => some (vs, s)
      | some x => match stepI s x with
        | none => none
        | some (o, s') => some (vs ++ [o], s')
def validC (l : List It) : Bool := (walkTo l l.length).isSome && decide (l.length ≤ 2000)
theorem walkTo_succ (l : List It) (k : Nat) (hk : k < l.length) : walkTo l (k + 1) = match walkTo l k with
    | none => none
    | some (vs, s) => match stepI s l[k] with
      | none => none
      | some (o, s') => some (vs ++ [o], s') := by
  rw [walkTo]
  cases walkTo l k with
  | none => rfl
  | some p => rw [List.getElem?_eq_getElem hk]
theorem stepI_some {s : Wk} {x : It} {o : List ByteArray} {s' : Wk} (h : stepI s x = some (o, s')) : properI x = true ∧ x.id ∉ s.seen ∧ ∃ k, kOf s.op x.parent = some k ∧ o = s.op.take k ∧ s'.seen = x.id :: s.seen ∧ s'.op = if x.kind = 1 then o ++ [x.id] else o := by
  unfold stepI at h
  split at h
  · rename_i hp
    split at h
    · cases h
    · rename_i k hk
      injection h with h
      injection h with h1 h2
      subst h1 h2
      exact ⟨hp.1, (inB_no _ _).1 hp.2, k, hk, rfl, rfl, rfl⟩
  · cases h
/-- A walk that has come to k + 1 has come to k. -/
theorem walk_step {l : List It} {k : Nat} (hk : k < l.length) {vs : List (List ByteArray)} {s' : Wk} (h : walkTo l (k + 1) = some (vs, s')) : ∃ vs0 s o, walkTo l k = some (vs0, s) ∧ stepI s l[k] = some (o, s') ∧ vs = vs0 ++ [o] := by
  rw [walkTo_succ l k hk] at h
  cases hw : walkTo l k with
  | none => rw [hw] at h; cases h
  | some p =>
    obtain ⟨vs0, s⟩ := p
    rw [hw] at h
    simp only at h
    cases hs : stepI s l[k] with
    | none => rw [hs] at h; cases h
    | some q =>
      obtain ⟨o, s2⟩ := q
      rw [hs] at h
      simp only [Option.some.injEq, Prod.mk.injEq] at h
      obtain ⟨rfl, rfl⟩ := h
      exact ⟨vs0, s, o, rfl, hs, rfl⟩
theorem walk_len {l : List It} : ∀ {k : Nat} (_ : k ≤ l.length) {vs : List (List ByteArray)} {s : Wk}, walkTo l k = some (vs, s) → vs.length = k
  | 0, _, vs, s, h => by cases h; rfl
  | k + 1, hk, vs, s, h => by
    obtain ⟨vs0, s0, o, h1, _, rfl⟩ := walk_step (by omega) h
    rw [List.length_append, walk_len (by omega) h1]
    rfl
/-- A walk goes on from a walk. -/
theorem walk_le {l : List It} : ∀ {n : Nat} (_ : n ≤ l.length) {vs : List (List ByteArray)} {s : Wk}, walkTo l n = some (vs, s) → ∀ k ≤ n, ∃ s0, walkTo l k = some (vs.take k, s0)
  | 0, _, vs, s, h, k, hk => by
    obtain rfl : k = 0 := by omega
    cases h
    exact ⟨_, rfl⟩
  | n + 1, hn, vs, s, h, k, hk => by
    obtain ⟨vs0, s0, o, h1, _, rfl⟩ := walk_step (by omega) h
    have hl := walk_len (by omega) h1
    by_cases e : k = n + 1
    · subst e
      exact ⟨s, by rw [List.take_of_length_le (by rw [List.length_append, hl]; simp)]; exact h⟩
    · obtain ⟨s1, h2⟩ := walk_le (by omega) h1 k (by omega)
      exact ⟨s1, by rw [List.take_append_of_le_length (by omega)]; exact h2⟩
/-- What has been seen: the names of the items, the last one first; what is open has been seen. -/
theorem walk_seen {l : List It} : ∀ {k : Nat} (_ : k ≤ l.length) {vs : List (List ByteArray)} {s : Wk}, walkTo l k = some (vs, s) → s.seen = ((l.take k).map It.id).reverse ∧ s.seen.Nodup ∧ (∀ x ∈ s.op, x ∈ s.seen) ∧ (∀ o ∈ vs, ∀ x ∈ o, x ∈ s.seen)
  | 0, _, vs, s, h => by cases h; exact ⟨rfl, List.nodup_nil, by simp, by simp⟩
  | k + 1, hk, vs, s, h => by
    have hk' : k < l.length := by omega
    obtain ⟨vs0, s0, o, h1, h2, rfl⟩ := walk_step hk' h
    obtain ⟨a1, a2, a3, a4⟩ := walk_seen (by omega) h1
    obtain ⟨_, b2, k', _, b4, b5, b6⟩ := stepI_some h2
    have ho : ∀ x ∈ o, x ∈ s0.seen := fun x hx => a3 x (by rw [b4] at hx; exact List.mem_of_mem_take hx)
    refine ⟨?_, ?_, fun x hx => ?_, fun o' ho' x hx => ?_⟩
    · rw [b5, a1, List.take_succ_eq_append_getElem hk', List.map_append, List.reverse_append]; rfl
    · rw [b5]; exact List.nodup_cons.2 ⟨b2, a2⟩
    · rw [b6] at hx
      rw [b5]
      split at hx
      · rcases List.mem_append.1 hx with h | h
        · exact List.mem_cons_of_mem _ (ho x h)
        · rw [List.mem_singleton.1 h]; exact List.mem_cons_self ..
      · exact List.mem_cons_of_mem _ (ho x hx)
    · rw [b5]
      rcases List.mem_append.1 ho' with h | h
      · exact List.mem_cons_of_mem _ (a4 o' h x hx)
      · rw [List.mem_singleton.1 h] at hx; exact List.mem_cons_of_mem _ (ho x hx)
end Go.Proofs.YtobhpeockinnjaaGreatDoor.Dg

