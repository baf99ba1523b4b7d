/- The digest as a plain function on lists of bytes, with its laws; no program in sight. No conditions. -/
import Derived.KernelRfl
namespace Go.Proofs.YtmmpndijfbbnnaaDoor
namespace Dg

def M : Nat := 18446744073709551616
def mix (x : Nat) : Nat :=
  let a := x * 6364136223846793005 % M
  let b := a ^^^ (a >>> 31)
  let c := b * 3202034522624059733 % M
  c ^^^ (c >>> 30)
/-- The first 8 bytes of a list as a number, the first one being the most significant; bytes 0 for what is missing. -/
def blkTo (l : List UInt8) : Nat → Nat
  | 0 => 0
  | i + 1 => blkTo l i * 256 + (l.getD i 0).toNat
def blk (l : List UInt8) : Nat := blkTo l 8
def run : Nat → Nat → List UInt8 → Nat
  | 0, s, _ => s
  | k + 1, s, l => run k (mix (s ^^^ blk l)) (l.drop 8)
def state (l : List UInt8) : Nat := run (l.length / 8 + 1) (1442695040888963407 ^^^ l.length) l
def hexDigit (n : Nat) : UInt8 := if n < 10 then UInt8.ofNat (48 + n) else UInt8.ofNat (87 + n)
def hexTo (s : Nat) : Nat → List UInt8
  | 0 => []
  | i + 1 => hexTo s i ++ [hexDigit (s / 16 ^ (15 - i) % 16)]
def hex (s : Nat) : List UInt8 := hexTo s 16
def sum (l : List UInt8) : List UInt8 := hex (state l)
/-- The decimal digits of a number. -/
def decF : Nat → Nat → List UInt8
  | 0, _ => []
  | f + 1, n => if n < 10 then [UInt8.ofNat (48 + n)] else decF f (n / 10) ++ [UInt8.ofNat (48 + n % 10)]
def dec (n : Nat) : List UInt8 := decF 20 n
def joined (l : List (List UInt8)) : List UInt8 := l.flatMap fun s => dec s.length ++ 58 :: s
def list (l : List (List UInt8)) : List UInt8 := sum (joined l)
def chain (l : List UInt8) : Nat → List UInt8
  | 0 => l
  | n + 1 => sum (chain l n)
def isDig (c : UInt8) : Bool := (48 ≤ c && c ≤ 57) || (97 ≤ c && c ≤ 102)
def is (l : List UInt8) : Bool := l.length == 16 && l.all isDig

theorem M_eq : M = 2 ^ 64 := rfl
theorem M_pos : 0 < M := by unfold M; omega
theorem xor_lt {a b : Nat} (ha : a < M) (hb : b < M) : a ^^^ b < M := by rw [M_eq] at *; exact Nat.xor_lt_two_pow ha hb
theorem shr_lt {a k : Nat} (ha : a < M) : a >>> k < M := Nat.lt_of_le_of_lt (Nat.shiftRight_le a k) ha
theorem mix_lt (x : Nat) : mix x < M := xor_lt (Nat.mod_lt _ M_pos) (shr_lt (Nat.mod_lt _ M_pos))

theorem shr_zero {a k : Nat} (ha : a < M) (hk : 64 ≤ k) : a >>> k = 0 := by
  rw [Nat.shiftRight_eq_div_pow]
  refine Nat.div_eq_of_lt (Nat.lt_of_lt_of_le ha ?_)
  rw [M_eq]
  exact Nat.pow_le_pow_right (by omega) hk

theorem xs_inj {a b k : Nat} (ha : a < M) (hb : b < M) (hk : 22 ≤ k) (h : a ^^^ (a >>> k) = b ^^^ (b >>> k)) : a = b := by
  have key : ∀ x, x < M → (x ^^^ (x >>> k)) ^^^ ((x ^^^ (x >>> k)) >>> k) ^^^ ((x ^^^ (x >>> k)) >>> (k + k)) = x := by
    intro x hx
    have e3 : x >>> (k + k + k) = 0 := shr_zero hx (by omega)
    rw [Nat.shiftRight_xor_distrib, Nat.shiftRight_xor_distrib, ← Nat.shiftRight_add, ← Nat.shiftRight_add]
    rw [show k + (k + k) = k + k + k from by omega, e3, Nat.xor_zero]
    generalize x >>> k = p
    generalize x >>> (k + k) = q
    rw [Nat.xor_assoc, Nat.xor_assoc, Nat.xor_assoc, Nat.xor_self, Nat.xor_zero, Nat.xor_self, Nat.xor_zero]
  rw [← key a ha, ← key b hb, h]

theorem mul_inj {a b c d : Nat} (ha : a < M) (hb : b < M) (hcd : c * d % M = 1) (h : a * c % M = b * c % M) : a = b := by
  have key : ∀ x, x < M → (x * c % M) * d % M = x := by
    intro x hx
    rw [Nat.mul_mod, Nat.mod_mod, ← Nat.mul_mod, Nat.mul_assoc, Nat.mul_mod, hcd, Nat.mul_one, Nat.mod_mod, Nat.mod_eq_of_lt hx]
  rw [← key a ha, ← key b hb, h]

theorem mix_inj {a b : Nat} (ha : a < M) (hb : b < M) (h : mix a = mix b) : a = b := by
  unfold mix at h
  have h1 := xs_inj (Nat.mod_lt _ M_pos) (Nat.mod_lt _ M_pos) (by omega) h
  have h2 := mul_inj (d := 10706317138985569277) (xor_lt (Nat.mod_lt _ M_pos) (shr_lt (Nat.mod_lt _ M_pos))) (xor_lt (Nat.mod_lt _ M_pos) (shr_lt (Nat.mod_lt _ M_pos))) (by decide +kernel) h1
  have h3 := xs_inj (Nat.mod_lt _ M_pos) (Nat.mod_lt _ M_pos) (by omega) h2
  exact mul_inj (d := 13877824140714322085) ha hb (by decide +kernel) h3

theorem blkTo_lt (l : List UInt8) (i : Nat) : blkTo l i < 256 ^ i := by
  induction i with
  | zero => simp [blkTo]
  | succ i ih =>
    have := (l.getD i 0).toNat_lt
    rw [blkTo, Nat.pow_succ]
    omega
theorem blk_lt (l : List UInt8) : blk l < M := blkTo_lt l 8
theorem hexDigit_lo (k : Nat) (h : k < 10) : ((hexDigit k).toNat : Int) = 48 + k := by
  unfold hexDigit
  rw [if_pos h, UInt8.toNat_ofNat']
  omega
theorem hexDigit_hi (k : Nat) (h : ¬ k < 10) (h' : k < 16) : ((hexDigit k).toNat : Int) = 97 + k - 10 := by
  unfold hexDigit
  rw [if_neg h, UInt8.toNat_ofNat']
  omega
def B (l : List UInt8) : ByteArray := ⟨l.toArray⟩
def L (s : ByteArray) : List UInt8 := s.data.toList
def sumB (s : ByteArray) : ByteArray := B (sum (L s))
theorem blkTo_take (l : List UInt8) (n i : Nat) (h : i ≤ n) : blkTo (l.take n) i = blkTo l i := by
  induction i with
  | zero => rfl
  | succ i ih =>
    rw [blkTo, blkTo, ih (by omega), List.getD_eq_getElem?_getD, List.getD_eq_getElem?_getD, List.getElem?_take, if_pos (by omega)]
theorem blk_take (l : List UInt8) : blk (l.take 8) = blk l := blkTo_take l 8 8 (Nat.le_refl _)
theorem len_L (s : ByteArray) : (L s).length = s.size := Array.length_toList
theorem L_B (l : List UInt8) : L (B l) = l := rfl
theorem B_L (s : ByteArray) : B (L s) = s := by unfold B L; rfl
theorem L_inj {a b : ByteArray} (h : L a = L b) : a = b := by rw [← B_L a, ← B_L b, h]
theorem L_extract (s : ByteArray) (i j : Nat) : L (s.extract i j) = ((L s).take j).drop i := by
  unfold L
  rw [ByteArray.data_extract, Array.toList_extract, List.extract_eq_take_drop, List.drop_take]
theorem size_B (l : List UInt8) : (B l).size = l.length := by rw [← len_L, L_B]
theorem hexTo_len (s i : Nat) : (hexTo s i).length = i := by
  induction i with
  | zero => rfl
  | succ i ih => rw [hexTo, List.length_append, ih]; rfl
theorem sum_len (l : List UInt8) : (sum l).length = 16 := hexTo_len _ 16
theorem sumB_size (s : ByteArray) : (sumB s).size = 16 := by rw [sumB, size_B, sum_len]
theorem run_step (s : Nat) (l : List UInt8) (h : 8 ≤ l.length) : run (l.length / 8 + 1) s l = run ((l.drop 8).length / 8 + 1) (mix (s ^^^ blk l)) (l.drop 8) := by
  rw [List.length_drop, show l.length / 8 = (l.length - 8) / 8 + 1 by omega]
  rfl
theorem run_lt (k s : Nat) (l : List UInt8) (hs : s < M) : run k s l < M := by
  induction k generalizing s l with
  | zero => exact hs
  | succ k ih => exact ih _ _ (mix_lt _)
theorem state_lt (l : List UInt8) : state l < M := by unfold state run; exact run_lt _ _ _ (mix_lt _)
theorem hexTo_get (s n j : Nat) (hj : j < n) : (hexTo s n)[j]? = some (hexDigit (s / 16 ^ (15 - j) % 16)) := by
  induction n with
  | zero => omega
  | succ n ih =>
    rw [hexTo]
    by_cases h : j < n
    · rw [List.getElem?_append_left (by rw [hexTo_len]; exact h)]
      exact ih h
    · obtain rfl : j = n := by omega
      rw [List.getElem?_append_right (by rw [hexTo_len]; omega), hexTo_len, Nat.sub_self]
      rfl
def joinedL (l : List ByteArray) : List UInt8 := joined (l.map L)
def listB (l : List ByteArray) : ByteArray := B (list (l.map L))
def chainB (s : ByteArray) (n : Nat) : ByteArray := B (chain (L s) n)
def isB (s : ByteArray) : Bool := is (L s)
theorem joined_append (a b : List (List UInt8)) : joined (a ++ b) = joined a ++ joined b := by unfold joined; rw [List.flatMap_append]
theorem joinedL_take (l : List ByteArray) (k : Nat) (h : k < l.length) : joinedL (l.take (k + 1)) = joinedL (l.take k) ++ (dec (L l[k]).length ++ 58 :: L l[k]) := by
  unfold joinedL
  rw [List.take_succ_eq_append_getElem h, List.map_append, joined_append]
  simp [joined]
theorem chain_succ (l : List UInt8) (n : Nat) : chain l (n + 1) = sum (chain l n) := rfl
theorem chainB_zero (s : ByteArray) : chainB s 0 = s := B_L s
theorem chainB_succ (s : ByteArray) (n : Nat) : chainB s (n + 1) = sumB (chainB s n) := rfl
theorem decF_len (f n : Nat) : (decF f n).length ≤ f := by
  induction f generalizing n with
  | zero => simp [decF]
  | succ f ih =>
    rw [decF]
    split
    · simp
    · rw [List.length_append]
      have := ih (n / 10)
      simp only [List.length_cons, List.length_nil]
      omega
theorem dec_len (n : Nat) : (dec n).length ≤ 20 := decF_len 20 n
theorem joined_len_le (l : List (List UInt8)) (m : Nat) (h : ∀ s ∈ l, s.length ≤ m) : (joined l).length ≤ l.length * (m + 21) := by
  induction l with
  | nil => simp [joined]
  | cons a r ih =>
    have e : joined (a :: r) = (dec a.length ++ 58 :: a) ++ joined r := by simp [joined]
    have h1 := ih fun s hs => h s (List.mem_cons_of_mem _ hs)
    have h2 := h a (List.mem_cons_self ..)
    have h3 := dec_len a.length
    rw [e, List.length_append, List.length_append, List.length_cons, List.length_cons, Nat.succ_mul]
    omega
theorem joinedL_len_le (l : List ByteArray) (m : Nat) (h : ∀ s ∈ l, s.size ≤ m) : (joinedL l).length ≤ l.length * (m + 21) := by
  have := joined_len_le (l.map L) m (fun s hs => by
    obtain ⟨a, ha, rfl⟩ := List.mem_map.1 hs
    rw [len_L]; exact h a ha)
  rwa [List.length_map] at this
theorem chainB_le (s : ByteArray) (k : Nat) : (chainB s k).size ≤ s.size + 16 := by
  cases k with
  | zero => rw [chainB_zero]; omega
  | succ k => rw [chainB_succ, sumB_size]; omega
def hexes : List UInt8 := [48, 49, 50, 51, 52, 53, 54, 55, 56, 57, 97, 98, 99, 100, 101, 102]
/-- The value of a hexadecimal digit; -1 if it is none. -/
def digit (c : UInt8) : Int := if 48 ≤ c.toNat ∧ c.toNat ≤ 57 then (c.toNat : Int) - 48 else if 97 ≤ c.toNat ∧ c.toNat ≤ 102 then (c.toNat : Int) - 87 else -1
/-- At most 30 texts of at most n bytes. -/
def few (l : List ByteArray) (n : Int) : Bool := decide (l.length ≤ 30 ∧ ∀ s ∈ l, (s.size : Int) ≤ n)
theorem few_iff (l : List ByteArray) (n : Int) : few l n = true ↔ l.length ≤ 30 ∧ ∀ s ∈ l, (s.size : Int) ≤ n := by unfold few; exact decide_eq_true_iff
theorem few_no (l : List ByteArray) (n : Int) (h : ¬ (l.length ≤ 30 ∧ ∀ s ∈ l, (s.size : Int) ≤ n)) : few l n = false := by unfold few; exact decide_eq_false h
def same (a b : List ByteArray) : Bool := decide (a = b)
theorem same_iff (a b : List ByteArray) : same a b = true ↔ a = b := by unfold same; exact decide_eq_true_iff
theorem same_no (a b : List ByteArray) (h : a ≠ b) : same a b = false := by unfold same; exact decide_eq_false h
end Dg
end Go.Proofs.YtmmpndijfbbnnaaDoor
