/- Walks and laws of this seat, several texts in one. No conditions but those that each theorem states. -/
import Derived.WalkKit
import Derived.WalkSpells
import Derived.WalkLawsBesides
import Derived.Deep.QuietTactic
import Derived.BigQuiet
import Derived.Deep.DeepFit
import Derived.Laws.OwnMore
import Derived.Deep.AppendLies
import Derived.Deep.Draws
import Derived.Maps.AppendAt
import Derived.RegionTactic
import Derived.OwnWalk
import Derived.Shelf.Strings.Builder1
import Derived.Test.YtpldhempbdionaaGreatDoorProg
import Derived.KernelRfl
import Derived.Test.YtpldhempbdionaaGreatDoorShelf
import Derived.Shelf.Strings.SlTrimAscii
import Derived.Lib.LaidTab
import Derived.OneCell
import Derived.Laws.RangeString
import Derived.Lib.IndexAny
import Derived.Laws.Strings3
import Derived.Laws.Runes
import Derived.Deep.LoopGhost
import Derived.WalkMore
import Derived.Deep.DeepCutAuto
import Derived.Lib.AppendStr
import Derived.Lib.QuietBelow
import Derived.Laws.Slices
import Derived.StillTailTactics
import Derived.Deep.RegionWith
import Derived.Laws.EntriesVeiled
import Derived.Deep.RegionHeld3
import Derived.IntWalk
import Derived.Maps.Own
import Derived.Shelf.Strings.IndexAnyAll
import Derived.Shelf.GgClosure.StringsRunes
import Derived.Maps.OwnOps
import Derived.Maps.Views
import Derived.ArgAppend
import Derived.StringKeys
import Derived.OrdersIn
import Derived.RangeFuncCalls
import Derived.Deep.RegionHeld
/- Small lemmas for the walks of this seat. No conditions. -/
namespace Go.Proofs.YtpldhempbdionaaGreatDoor
open Go Go.RowKit
theorem hide {p : Prop} (h : p) : Hid p := h
theorem ret_int {k : IntKind} {a b : Int} (h : a = b) : Ending.returned (.int k a) = .returned (.int k b) := by rw [h]
theorem ret_str {a b : ByteArray} (h : a = b) : Ending.returned (.string a) = .returned (.string b) := by rw [h]
theorem ret_bool {a b : Bool} (h : a = b) : Ending.returned (.bool a) = .returned (.bool b) := by rw [h]
end Go.Proofs.YtpldhempbdionaaGreatDoor
/- The library's strings.Builder at this program: the shelf's contracts laid by hand. No conditions. -/
namespace Go.Proofs
open Go.Shelf Go.RowKit
def Tryz.renWS : Go.Shelf.Ren := ⟨fun | 166 => 51 | 240 => 84 | 276 => 103 | n => n, fun | 0 => 0 | 3 => 3 | 4 => 4 | 5 => 5 | 9 => 9 | 20 => 20 | 37 => 56 | 70 => 67 | 72 => 69 | 75 => 71 | 80 => 77 | 164 => 132 | 127 => 72 | n => n, fun | n => n⟩
theorem Tryz.layWS : Go.Proofs.Lays.n166 Tryz.prog Tryz.renWS := {
  mixed := by kernel_rfl
  f166 := Tryz.func51.trans (congrArg some (by kernel_rfl))
  f240 := Tryz.func84.trans (congrArg some (by kernel_rfl))
  f276 := Tryz.func103.trans (congrArg some (by kernel_rfl))
  t0 := Tryz.underlying0
  a0 := Tryz.isAgg0
  z0 := Tryz.sizeOf0
  v0 := Tryz.zeroValue0
  t3 := Tryz.underlying3
  a3 := Tryz.isAgg3
  z3 := Tryz.sizeOf3
  v3 := Tryz.zeroValue3
  t4 := Tryz.underlying4
  a4 := Tryz.isAgg4
  z4 := Tryz.sizeOf4
  v4 := Tryz.zeroValue4
  t9 := Tryz.underlying9
  a9 := Tryz.isAgg9
  z9 := Tryz.sizeOf9
  v9 := Tryz.zeroValue9
  t20 := Tryz.underlying20
  a20 := Tryz.isAgg20
  z20 := Tryz.sizeOf20
  v20 := Tryz.zeroValue20
  t37 := Tryz.underlying56
  a37 := Tryz.isAgg56
  z37 := Tryz.sizeOf56
  v37 := Tryz.zeroValue56
  t70 := Tryz.underlying67
  a70 := Tryz.isAgg67
  z70 := Tryz.sizeOf67
  v70 := Tryz.zeroValue67
  t72 := Tryz.underlying69
  a72 := Tryz.isAgg69
  z72 := Tryz.sizeOf69
  v72 := Tryz.zeroValue69
  t75 := Tryz.underlying71
  a75 := Tryz.isAgg71
  z75 := Tryz.sizeOf71
  v75 := Tryz.zeroValue71
  t164 := Tryz.underlying132
  a164 := Tryz.isAgg132
  z164 := Tryz.sizeOf132
  v164 := Tryz.zeroValue132 }
theorem Tryz.extraWS : Builder.Extra Tryz.prog Tryz.renWS := {
  sizeBuilder := by kernel_rfl
  liesBuilder := by kernel_rfl
  t5 := Tryz.underlying5
  a5 := Tryz.isAgg5
  z5 := Tryz.sizeOf5
  v5 := Tryz.zeroValue5
  infoByte := by kernel_rfl
  cellsByte := by kernel_rfl
  sizeByte := by kernel_rfl
  neB5 := by decide }
theorem Tryz.Builder_WriteString (B b : Nat) (bs : List Value) (s : ByteArray) (w : World) (h : Lib.IsBuilder 69 5 B b bs w) (hlen : bs.length + s.size ≤ 140737488355328) (hBw : B ≤ w.heap.size) :
    Calls Tryz.prog 51 #[.pointer (some ⟨b, 0, none⟩), .string s] w fun e w' => e = .returned (.tuple #[.int .i64 s.size, .nilIface]) ∧ (Lib.BuilderAt 69 5 B b (.pointer (some ⟨b, 0, none⟩)) (bs ++ Lib.strCells s) w' ∧ Below B w w') :=
  Any.Builder_WriteString Tryz.layWS Tryz.extraWS B b bs s w h hlen hBw
end Go.Proofs
/- The digest as a plain function on lists of bytes, with its laws; no program in sight. No conditions. -/
namespace Go.Proofs.YtpldhempbdionaaGreatDoor
namespace Dg

def M : Nat := 18446744073709551616
def mix (x : Nat) : Nat :=
  let a := x * 6364136223846793005 % M
  let b := a ^^^ (a >>> 31)
  let c := b * 3202034522624059733 % M
  c ^^^ (c >>> 30)
/-- The first 8 bytes of a list as a number, the first one being the most significant; bytes 0 for what is missing. -/
def blkTo (l : List UInt8) : Nat → Nat
  | 0 => 0
  | i + 1 => blkTo l i * 256 + (l.getD i 0).toNat
def blk (l : List UInt8) : Nat := blkTo l 8
def run : Nat → Nat → List UInt8 → Nat
  | 0, s, _ => s
  | k + 1, s, l => run k (mix (s ^^^ blk l)) (l.drop 8)
def state (l : List UInt8) : Nat := run (l.length / 8 + 1) (1442695040888963407 ^^^ l.length) l
def hexDigit (n : Nat) : UInt8 := if n < 10 then UInt8.ofNat (48 + n) else UInt8.ofNat (87 + n)
def hexTo (s : Nat) : Nat → List UInt8
  | 0 => []
  | i + 1 => hexTo s i ++ [hexDigit (s / 16 ^ (15 - i) % 16)]
def hex (s : Nat) : List UInt8 := hexTo s 16
def sum (l : List UInt8) : List UInt8 := hex (state l)
/-- The decimal digits of a number. -/
def decF : Nat → Nat → List UInt8
  | 0, _ => []
  | f + 1, n => if n < 10 then [UInt8.ofNat (48 + n)] else decF f (n / 10) ++ [UInt8.ofNat (48 + n % 10)]
def dec (n : Nat) : List UInt8 := decF 20 n
def joined (l : List (List UInt8)) : List UInt8 := l.flatMap fun s => dec s.length ++ 58 :: s
def list (l : List (List UInt8)) : List UInt8 := sum (joined l)
def isDig (c : UInt8) : Bool := (48 ≤ c && c ≤ 57) || (97 ≤ c && c ≤ 102)
def is (l : List UInt8) : Bool := l.length == 16 && l.all isDig

theorem M_eq : M = 2 ^ 64 := rfl
theorem M_pos : 0 < M := by unfold M; omega
theorem xor_lt {a b : Nat} (ha : a < M) (hb : b < M) : a ^^^ b < M := by rw [M_eq] at *; exact Nat.xor_lt_two_pow ha hb
theorem shr_lt {a k : Nat} (ha : a < M) : a >>> k < M := Nat.lt_of_le_of_lt (Nat.shiftRight_le a k) ha
theorem mix_lt (x : Nat) : mix x < M := xor_lt (Nat.mod_lt _ M_pos) (shr_lt (Nat.mod_lt _ M_pos))

theorem blkTo_lt (l : List UInt8) (i : Nat) : blkTo l i < 256 ^ i := by
  induction i with
  | zero => simp [blkTo]
  | succ i ih =>
    have := (l.getD i 0).toNat_lt
    rw [blkTo, Nat.pow_succ]
    omega
theorem blk_lt (l : List UInt8) : blk l < M := blkTo_lt l 8
theorem hexDigit_lo (k : Nat) (h : k < 10) : ((hexDigit k).toNat : Int) = 48 + k := by
  unfold hexDigit
  rw [if_pos h, UInt8.toNat_ofNat']
  omega
theorem hexDigit_hi (k : Nat) (h : ¬ k < 10) (h' : k < 16) : ((hexDigit k).toNat : Int) = 97 + k - 10 := by
  unfold hexDigit
  rw [if_neg h, UInt8.toNat_ofNat']
  omega
def B (l : List UInt8) : ByteArray := ⟨l.toArray⟩
def L (s : ByteArray) : List UInt8 := s.data.toList
def sumB (s : ByteArray) : ByteArray := B (sum (L s))
theorem blkTo_take (l : List UInt8) (n i : Nat) (h : i ≤ n) : blkTo (l.take n) i = blkTo l i := by
  induction i with
  | zero => rfl
  | succ i ih =>
    rw [blkTo, blkTo, ih (by omega), List.getD_eq_getElem?_getD, List.getD_eq_getElem?_getD, List.getElem?_take, if_pos (by omega)]
theorem blk_take (l : List UInt8) : blk (l.take 8) = blk l := blkTo_take l 8 8 (Nat.le_refl _)
theorem len_L (s : ByteArray) : (L s).length = s.size := Array.length_toList
theorem L_B (l : List UInt8) : L (B l) = l := rfl
theorem B_L (s : ByteArray) : B (L s) = s := by unfold B L; rfl
theorem L_inj {a b : ByteArray} (h : L a = L b) : a = b := by rw [← B_L a, ← B_L b, h]
theorem L_extract (s : ByteArray) (i j : Nat) : L (s.extract i j) = ((L s).take j).drop i := by
  unfold L
  rw [ByteArray.data_extract, Array.toList_extract, List.extract_eq_take_drop, List.drop_take]
theorem size_B (l : List UInt8) : (B l).size = l.length := by rw [← len_L, L_B]
theorem hexTo_len (s i : Nat) : (hexTo s i).length = i := by
  induction i with
  | zero => rfl
  | succ i ih => rw [hexTo, List.length_append, ih]; rfl
theorem run_step (s : Nat) (l : List UInt8) (h : 8 ≤ l.length) : run (l.length / 8 + 1) s l = run ((l.drop 8).length / 8 + 1) (mix (s ^^^ blk l)) (l.drop 8) := by
  rw [List.length_drop, show l.length / 8 = (l.length - 8) / 8 + 1 by omega]
  rfl
theorem run_lt (k s : Nat) (l : List UInt8) (hs : s < M) : run k s l < M := by
  induction k generalizing s l with
  | zero => exact hs
  | succ k ih => exact ih _ _ (mix_lt _)
theorem state_lt (l : List UInt8) : state l < M := by unfold state run; exact run_lt _ _ _ (mix_lt _)
theorem hexTo_get (s n j : Nat) (hj : j < n) : (hexTo s n)[j]? = some (hexDigit (s / 16 ^ (15 - j) % 16)) := by
  induction n with
  | zero => omega
  | succ n ih =>
    rw [hexTo]
    by_cases h : j < n
    · rw [List.getElem?_append_left (by rw [hexTo_len]; exact h)]
      exact ih h
    · obtain rfl : j = n := by omega
      rw [List.getElem?_append_right (by rw [hexTo_len]; omega), hexTo_len, Nat.sub_self]
      rfl
def joinedL (l : List ByteArray) : List UInt8 := joined (l.map L)
def listB (l : List ByteArray) : ByteArray := B (list (l.map L))
def isB (s : ByteArray) : Bool := is (L s)
theorem joined_append (a b : List (List UInt8)) : joined (a ++ b) = joined a ++ joined b := by unfold joined; rw [List.flatMap_append]
theorem joinedL_take (l : List ByteArray) (k : Nat) (h : k < l.length) : joinedL (l.take (k + 1)) = joinedL (l.take k) ++ (dec (L l[k]).length ++ 58 :: L l[k]) := by
  unfold joinedL
  rw [List.take_succ_eq_append_getElem h, List.map_append, joined_append]
  simp [joined]
theorem decF_len (f n : Nat) : (decF f n).length ≤ f := by
  induction f generalizing n with
  | zero => simp [decF]
  | succ f ih =>
    rw [decF]
    split
    · simp
    · rw [List.length_append]
      have := ih (n / 10)
      simp only [List.length_cons, List.length_nil]
      omega
theorem dec_len (n : Nat) : (dec n).length ≤ 20 := decF_len 20 n
theorem joined_len_le (l : List (List UInt8)) (m : Nat) (h : ∀ s ∈ l, s.length ≤ m) : (joined l).length ≤ l.length * (m + 21) := by
  induction l with
  | nil => simp [joined]
  | cons a r ih =>
    have e : joined (a :: r) = (dec a.length ++ 58 :: a) ++ joined r := by simp [joined]
    have h1 := ih fun s hs => h s (List.mem_cons_of_mem _ hs)
    have h2 := h a (List.mem_cons_self ..)
    have h3 := dec_len a.length
    rw [e, List.length_append, List.length_append, List.length_cons, List.length_cons, Nat.succ_mul]
    omega
theorem joinedL_len_le (l : List ByteArray) (m : Nat) (h : ∀ s ∈ l, s.size ≤ m) : (joinedL l).length ≤ l.length * (m + 21) := by
  have := joined_len_le (l.map L) m (fun s hs => by
    obtain ⟨a, ha, rfl⟩ := List.mem_map.1 hs
    rw [len_L]; exact h a ha)
  rwa [List.length_map] at this
def hexes : List UInt8 := [48, 49, 50, 51, 52, 53, 54, 55, 56, 57, 97, 98, 99, 100, 101, 102]
/-- The value of a hexadecimal digit; -1 if it is none. -/
def digit (c : UInt8) : Int := if 48 ≤ c.toNat ∧ c.toNat ≤ 57 then (c.toNat : Int) - 48 else if 97 ≤ c.toNat ∧ c.toNat ≤ 102 then (c.toNat : Int) - 87 else -1
/-- At most 30 texts of at most n bytes. -/
def few (l : List ByteArray) (n : Int) : Bool := decide (l.length ≤ 30 ∧ ∀ s ∈ l, (s.size : Int) ≤ n)
def same (a b : List ByteArray) : Bool := decide (a = b)
theorem same_iff (a b : List ByteArray) : same a b = true ↔ a = b := by unfold same; exact decide_eq_true_iff
theorem same_no (a b : List ByteArray) (h : a ≠ b) : same a b = false := by unfold same; exact decide_eq_false h
end Dg
end Go.Proofs.YtpldhempbdionaaGreatDoor
/- What the walks ask of the world: the library's table of powers of ten as its initialiser lays it; a slice of strings that reads as a list. No conditions. -/
namespace Go.Proofs.YtpldhempbdionaaGreatDoor
open Go Go.RowKit Go.Sort
/-- The table is laid. -/
def Env (w : World) : Prop := Lib.TabIs Tryz.prog w "internal/strconv.uint64pow10" .u64 Lib.pow10Tab
theorem gPow : Tryz.prog.globalNamed "internal/strconv.uint64pow10" = some 3 := by kernel_rfl
theorem Env.lt {w : World} (h : Env w) : 3 < w.heap.size := by
  have := Lib.TabIs.cell h gPow 0 (by decide)
  exact World.block_lt_of_cell? _ _ this
theorem Env.below {w w' : World} {B : Nat} (h : Env w) (hb : Below B w w') (hB : 3 < B) : Env w' := var?_below hb gPow hB h
theorem Env.next {w w' : World} (h : Env w) (hb : Below w.heap.size w w') : Env w' := h.below hb h.lt
theorem below_grown (w : World) (k : Nat) (os : Array Obj) : Below w.heap.size w (grow (w.drewN k) os) :=
  ⟨rfl, rfl, rfl, by show w.heap.size ≤ (w.heap ++ os).size; simp, fun i hi => by
    show (w.heap ++ os)[i]? = w.heap[i]?
    rw [Array.getElem?_append_left hi]⟩
/-- The decimal digits as the library's word has them. -/
def decB (n : Nat) : ByteArray := Dg.B (Lib.decDigits n)
theorem itoa_any (k : Int) (n : Nat) (hk : k = n) (hn : n ≤ 9223372036854775807) (w : World) (he : Env w) :
    Calls Tryz.prog 72 #[.int .i64 k] w fun e w' => e = .returned (.string (decB n)) ∧ Below w.heap.size w w' := by
  subst hk
  refine (Tryz.strconv_Itoa n (by omega) (by omega) w he).mono ?_
  rintro e w' ⟨rfl, j, os, rfl⟩
  refine ⟨ret_str ?_, below_grown _ _ _⟩
  unfold Lib.itoa decB Dg.B
  rw [if_neg (by omega), Int.toNat_natCast]
/-- A slice of strings: its address, and the list that it reads as; below block B. -/
structure Strs (w : World) (B : Nat) (A : Option Addr) (l : List ByteArray) : Prop where
  at_ : 0 < l.length → ∃ b off, A = some ⟨b, off, none⟩ ∧ b < B ∧ ∀ (j : Nat) (s : ByteArray), l[j]? = some s → w.cell? ⟨b, off + j, none⟩ = some (.string s)
theorem Strs.nil (w : World) (B : Nat) (A : Option Addr) : Strs w B A [] := ⟨fun h => by simp at h⟩
theorem Strs.keep {w w' : World} {B : Nat} {A : Option Addr} {l : List ByteArray} (h : Strs w B A l) (hk : ∀ p : Addr, p.block < B → w'.cell? p = w.cell? p) : Strs w' B A l :=
  ⟨fun hl => by
    obtain ⟨b, off, e, hb, hc⟩ := h.at_ hl
    exact ⟨b, off, e, hb, fun j s hj => (hk _ hb).trans (hc j s hj)⟩⟩
theorem Strs.below {w w' : World} {B : Nat} {A : Option Addr} {l : List ByteArray} (h : Strs w B A l) (hb : Below B w w') : Strs w' B A l := h.keep fun _ hp => hb.cell hp
theorem Strs.more {w : World} {B B' : Nat} {A : Option Addr} {l : List ByteArray} (h : Strs w B A l) (hB : B ≤ B') : Strs w B' A l :=
  ⟨fun hl => by
    obtain ⟨b, off, e, hb, hc⟩ := h.at_ hl
    exact ⟨b, off, e, by omega, hc⟩⟩
theorem Strs.get {w : World} {B : Nat} {A : Option Addr} {l : List ByteArray} (h : Strs w B A l) {k : Nat} (hk : k < l.length) : ∃ b off, A = some ⟨b, off, none⟩ ∧ b < B ∧ w.cell? ⟨b, off + k, none⟩ = some (.string l[k]) := by
  obtain ⟨b, off, e, hb, hc⟩ := h.at_ (by omega)
  exact ⟨b, off, e, hb, hc k _ (List.getElem?_eq_getElem hk)⟩
theorem decF_eq (f n : Nat) (h : n < 10 ^ f) (hf : 0 < f) : Dg.decF f n = Lib.decDigits n := by
  induction f generalizing n with
  | zero =>
    omega
  | succ f ih =>
    rw [Dg.decF, Lib.decDigits]
    by_cases h1 : n < 10
    · rw [if_pos h1, dif_pos h1]
    · have h2 : 0 < f := by
        rcases Nat.eq_zero_or_pos f with h0 | h0
        · subst h0; simp at h; omega
        · exact h0
      rw [if_neg h1, dif_neg h1, ih _ (by rw [Nat.pow_succ] at h; omega) h2]
theorem dec_eq (n : Nat) (h : n ≤ 9223372036854775807) : Dg.dec n = Lib.decDigits n := decF_eq 20 n (by omega) (by omega)
theorem L_decB (n : Nat) (h : n ≤ 9223372036854775807) : Dg.L (decB n) = Dg.dec n := (dec_eq n h).symm
theorem decB_size (n : Nat) (h : n ≤ 9223372036854775807) : (decB n).size ≤ 20 := by
  rw [← Dg.len_L, L_decB n h]; exact Dg.dec_len n
theorem own_below {w w' : World} {base : Nat} {e : TypeId} {size : Nat} {v : Value} {n : Nat} {xs : List Value} (h : w.ownsRow base e size v n xs) (hb : Below w.heap.size w w') : w'.ownsRow base e size v n xs := by
  obtain ⟨h1, h2⟩ := h
  refine ⟨h1, ?_⟩
  rcases h2 with h2 | ⟨g, cap, cur, hv, hg, hh, r⟩
  · exact Or.inl h2
  · exact Or.inr ⟨g, cap, cur, hv, hg, by rw [hb.block g (lt_of_block hh)]; exact hh, r⟩
theorem builder_below {T e : TypeId} {B b : Nat} {bs : List Value} {w w' : World} (h : Lib.IsBuilder T e B b bs w) (hb : Below w.heap.size w w') : Lib.IsBuilder T e B b bs w' := by
  rcases h with ⟨h1, v, h2, h3, h4⟩ | ⟨h1, v, h2, h3, h4⟩
  · exact Or.inl ⟨h1, v, by rw [hb.block b (lt_of_block h2)]; exact h2, own_below h3 hb, h4⟩
  · exact Or.inr ⟨h1, v, by rw [hb.block b (lt_of_block h2)]; exact h2, own_below h3 hb, h4⟩
theorem builder_new (T e : TypeId) (w : World) : Lib.IsBuilder T e w.heap.size w.heap.size [] (w.alloc (.cells #[.pointer none, .slice none 0 0] T)) :=
  Or.inl ⟨Nat.le_refl _, .slice none 0 0, heap_alloc_new w _, ⟨rfl, .inl ⟨rfl, rfl⟩⟩, by simp [Value.ownBlock]⟩
end Go.Proofs.YtpldhempbdionaaGreatDoor
/- The digest's laws as plain mathematics: form, one block, short texts, chains, joined texts. -/
namespace Go.Proofs.YtpldhempbdionaaGreatDoor
namespace Dg
theorem L_append (a b : ByteArray) : L (a ++ b) = L a ++ L b := by simp [L, ByteArray.data_append]
end Dg
end Go.Proofs.YtpldhempbdionaaGreatDoor
/- Codes of law in plain Lean: items, what a walk of them keeps open, validity. No program in sight. -/
namespace Go.Proofs.YtpldhempbdionaaGreatDoor.Dg
open Go
structure It where
  kind : Int
  id : ByteArray
  parent : ByteArray
  number : ByteArray
  north : ByteArray
  south : ByteArray
  gone : Bool
def nil8 : ByteArray := ⟨#[]⟩
def letterB (c : UInt8) : Bool := (97 ≤ c && c ≤ 122) || (65 ≤ c && c ≤ 90)
def digitB (c : UInt8) : Bool := (48 ≤ c && c ≤ 57) || c == 95
/-- A name. -/
def nameL : List UInt8 → Bool
  | [] => false
  | c :: r => letterB c && r.all fun d => letterB d || digitB d
def isNameB (s : ByteArray) : Bool := nameL (L s) && decide (s.size ≤ 24)
def numC (c : UInt8) : Bool := (48 ≤ c && c ≤ 57) || (97 ≤ c && c ≤ 122)
def isNumB (s : ByteArray) : Bool := decide (s.size ≤ 8) && (L s).all numC
/-- An item apart from its place. -/
def properI (x : It) : Bool :=
  if x.kind = 1 then isNumB x.number && (isNameB x.id && (decide (x.north = nil8) && (decide (x.south = nil8) && !x.gone)))
  else if x.kind = 2 then isNumB x.number && (isNameB x.id && (decide (x.north.size ≤ 400) && decide (x.south.size ≤ 400)))
  else false
def inB (l : List ByteArray) (x : ByteArray) : Bool := l.any fun d => decide (d = x)
theorem inB_iff (l : List ByteArray) (x : ByteArray) : inB l x = true ↔ x ∈ l := by
  unfold inB
  rw [List.any_eq_true]
  constructor
  · rintro ⟨d, hd, h⟩
    rw [of_decide_eq_true h] at hd
    exact hd
  · intro h
    exact ⟨x, h, decide_eq_true rfl⟩
theorem inB_no (l : List ByteArray) (x : ByteArray) : inB l x = false ↔ x ∉ l := by
  rw [← inB_iff]; simp
/-- How many of the open divisions stay open for an item. -/
def kOf (op : List ByteArray) (p : ByteArray) : Option Nat := if p = nil8 then some 0 else if inB op p = true then some (op.findIdx (fun d => decide (d = p)) + 1) else none
/-- What a walk has seen, and what is open. -/
structure Wk where
  seen : List ByteArray
  op : List ByteArray
/-- One item: none where the code is not valid. The open divisions at its visit come with it. -/
def stepI (s : Wk) (x : It) : Option (List ByteArray × Wk) :=
  if properI x = true ∧ inB s.seen x.id = false then
    match kOf s.op x.parent with
    | none => none
    | some k => some (s.op.take k, ⟨x.id :: s.seen, if x.kind = 1 then s.op.take k ++ [x.id] else s.op.take k⟩)
  else none
/-- The walk over the first k items: the state, and the open divisions at each visit. -/
def walkTo (l : List It) : Nat → Option (List (List ByteArray) × Wk)
  | 0 => some ([], ⟨[], []⟩)
  | k + 1 => match walkTo l k with
    | none => none
    | some (vs, s) => match l[k]? with
      | none => some (vs, s)
      | some x => match stepI s x with
        | none => none
        | some (o, s') => some (vs ++ [o], s')
def validC (l : List It) : Bool := (walkTo l l.length).isSome && decide (l.length ≤ 2000)
theorem walkTo_succ (l : List It) (k : Nat) (hk : k < l.length) : walkTo l (k + 1) = match walkTo l k with
    | none => none
    | some (vs, s) => match stepI s l[k] with
      | none => none
      | some (o, s') => some (vs ++ [o], s') := by
  rw [walkTo]
  cases walkTo l k with
  | none => rfl
  | some p => rw [List.getElem?_eq_getElem hk]
theorem stepI_some {s : Wk} {x : It} {o : List ByteArray} {s' : Wk} (h : stepI s x = some (o, s')) : properI x = true ∧ x.id ∉ s.seen ∧ ∃ k, kOf s.op x.parent = some k ∧ o = s.op.take k ∧ s'.seen = x.id :: s.seen ∧ s'.op = if x.kind = 1 then o ++ [x.id] else o := by
  unfold stepI at h
  split at h
  · rename_i hp
    split at h
    · cases h
    · rename_i k hk
      injection h with h
      injection h with h1 h2
      subst h1 h2
      exact ⟨hp.1, (inB_no _ _).1 hp.2, k, hk, rfl, rfl, rfl⟩
  · cases h
/-- A walk that has come to k + 1 has come to k. -/
theorem walk_step {l : List It} {k : Nat} (hk : k < l.length) {vs : List (List ByteArray)} {s' : Wk} (h : walkTo l (k + 1) = some (vs, s')) : ∃ vs0 s o, walkTo l k = some (vs0, s) ∧ stepI s l[k] = some (o, s') ∧ vs = vs0 ++ [o] := by
  rw [walkTo_succ l k hk] at h
  cases hw : walkTo l k with
  | none => rw [hw] at h; cases h
  | some p =>
    obtain ⟨vs0, s⟩ := p
    rw [hw] at h
    simp only at h
    cases hs : stepI s l[k] with
    | none => rw [hs] at h; cases h
    | some q =>
      obtain ⟨o, s2⟩ := q
      rw [hs] at h
      simp only [Option.some.injEq, Prod.mk.injEq] at h
      obtain ⟨rfl, rfl⟩ := h
      exact ⟨vs0, s, o, rfl, hs, rfl⟩
theorem walk_len {l : List It} : ∀ {k : Nat} (_ : k ≤ l.length) {vs : List (List ByteArray)} {s : Wk}, walkTo l k = some (vs, s) → vs.length = k
  | 0, _, vs, s, h => by cases h; rfl
  | k + 1, hk, vs, s, h => by
    obtain ⟨vs0, s0, o, h1, _, rfl⟩ := walk_step (by omega) h
    rw [List.length_append, walk_len (by omega) h1]
    rfl
/-- A walk goes on from a walk. -/
theorem walk_le {l : List It} : ∀ {n : Nat} (_ : n ≤ l.length) {vs : List (List ByteArray)} {s : Wk}, walkTo l n = some (vs, s) → ∀ k ≤ n, ∃ s0, walkTo l k = some (vs.take k, s0)
  | 0, _, vs, s, h, k, hk => by
    obtain rfl : k = 0 := by omega
    cases h
    exact ⟨_, rfl⟩
  | n + 1, hn, vs, s, h, k, hk => by
    obtain ⟨vs0, s0, o, h1, _, rfl⟩ := walk_step (by omega) h
    have hl := walk_len (by omega) h1
    by_cases e : k = n + 1
    · subst e
      exact ⟨s, by rw [List.take_of_length_le (by rw [List.length_append, hl]; simp)]; exact h⟩
    · obtain ⟨s1, h2⟩ := walk_le (by omega) h1 k (by omega)
      exact ⟨s1, by rw [List.take_append_of_le_length (by omega)]; exact h2⟩
/-- What has been seen: the names of the items, the last one first; what is open has been seen. -/
theorem walk_seen {l : List It} : ∀ {k : Nat} (_ : k ≤ l.length) {vs : List (List ByteArray)} {s : Wk}, walkTo l k = some (vs, s) → s.seen = ((l.take k).map It.id).reverse ∧ s.seen.Nodup ∧ (∀ x ∈ s.op, x ∈ s.seen) ∧ (∀ o ∈ vs, ∀ x ∈ o, x ∈ s.seen)
  | 0, _, vs, s, h => by cases h; exact ⟨rfl, List.nodup_nil, by simp, by simp⟩
  | k + 1, hk, vs, s, h => by
    have hk' : k < l.length := by omega
    obtain ⟨vs0, s0, o, h1, h2, rfl⟩ := walk_step hk' h
    obtain ⟨a1, a2, a3, a4⟩ := walk_seen (by omega) h1
    obtain ⟨_, b2, k', _, b4, b5, b6⟩ := stepI_some h2
    have ho : ∀ x ∈ o, x ∈ s0.seen := fun x hx => a3 x (by rw [b4] at hx; exact List.mem_of_mem_take hx)
    refine ⟨?_, ?_, fun x hx => ?_, fun o' ho' x hx => ?_⟩
    · rw [b5, a1, List.take_succ_eq_append_getElem hk', List.map_append, List.reverse_append]; rfl
    · rw [b5]; exact List.nodup_cons.2 ⟨b2, a2⟩
    · rw [b6] at hx
      rw [b5]
      split at hx
      · rcases List.mem_append.1 hx with h | h
        · exact List.mem_cons_of_mem _ (ho x h)
        · rw [List.mem_singleton.1 h]; exact List.mem_cons_self ..
      · exact List.mem_cons_of_mem _ (ho x hx)
    · rw [b5]
      rcases List.mem_append.1 ho' with h | h
      · exact List.mem_cons_of_mem _ (a4 o' h x hx)
      · rw [List.mem_singleton.1 h] at hx; exact List.mem_cons_of_mem _ (ho x hx)
end Go.Proofs.YtpldhempbdionaaGreatDoor.Dg
/- What is below an item of a code stands directly behind it, in plain Lean. No program in sight. -/
namespace Go.Proofs.YtpldhempbdionaaGreatDoor.Dg
open Go
/-- The open divisions at the visits of a valid code. -/
def visits (l : List It) : List (List ByteArray) := match walkTo l l.length with | none => [] | some (vs, _) => vs
theorem valid_walk {l : List It} (h : validC l = true) : ∃ s, walkTo l l.length = some (visits l, s) ∧ l.length ≤ 2000 := by
  unfold validC at h
  rw [Bool.and_eq_true, decide_eq_true_iff] at h
  unfold visits
  cases hw : walkTo l l.length with
  | none => rw [hw] at h; cases h.1
  | some p => obtain ⟨vs, s⟩ := p; exact ⟨s, rfl, h.2⟩
/-- At a visit nothing is open but what came before; the parent is. -/
theorem visit_at {l : List It} {n : Nat} (hn : n ≤ l.length) {vs : List (List ByteArray)} {s : Wk} (h : walkTo l n = some (vs, s)) {k : Nat} (hk : k < n) : ∃ o, vs[k]? = some o ∧ (∀ x ∈ o, x ∈ (l.take k).map It.id) ∧ l[k].id ∉ (l.take k).map It.id ∧ (l[k].parent ≠ nil8 → l[k].parent ∈ o) ∧ properI l[k] = true := by
  obtain ⟨s1, h1⟩ := walk_le hn h (k + 1) (by omega)
  obtain ⟨vs0, s0, o0, w0, st0, e0⟩ := walk_step (l := l) (k := k) (by omega) h1
  have l0 := walk_len (by omega) w0
  have a0 : (vs.take (k + 1))[k]? = some o0 := by rw [e0, List.getElem?_append_right (by omega), l0]; simp
  rw [List.getElem?_take_of_lt (by omega)] at a0
  obtain ⟨b1, _, b3, _⟩ := walk_seen (by omega) w0
  obtain ⟨c0, c1, j, c2, c3, _, _⟩ := stepI_some st0
  refine ⟨o0, a0, fun x hx => ?_, ?_, fun hp => ?_, c0⟩
  · rw [c3] at hx
    have := b3 x (List.mem_of_mem_take hx)
    rw [b1] at this
    exact List.mem_reverse.1 this
  · rw [b1] at c1
    exact fun hm => c1 (List.mem_reverse.2 hm)
  · unfold kOf at c2
    rw [if_neg hp] at c2
    split at c2
    · rename_i hin
      injection c2 with c2
      rw [c3, ← c2]
      have hf : (s0.op.findIdx fun d => decide (d = l[k].parent)) < s0.op.length := List.findIdx_lt_length_of_exists ⟨_, (inB_iff _ _).1 hin, decide_eq_true rfl⟩
      have hg := List.findIdx_getElem (w := hf)
      have hg2 := of_decide_eq_true hg
      have hlt : (s0.op.findIdx fun d => decide (d = l[k].parent)) < (s0.op.take ((s0.op.findIdx fun d => decide (d = l[k].parent)) + 1)).length := by rw [List.length_take]; omega
      exact List.mem_iff_getElem.2 ⟨_, hlt, by rw [List.getElem_take]; exact hg2⟩
    · cases c2
/-- Names of a code walked to its n-th item are different. -/
theorem ids_ne {l : List It} {n : Nat} (hn : n ≤ l.length) {vs : List (List ByteArray)} {s : Wk} (h : walkTo l n = some (vs, s)) {i k : Nat} (hi : i < k) (hk : k < n) : l[i].id ≠ l[k].id := fun e => by
  obtain ⟨_, _, _, h2, _⟩ := visit_at hn h hk
  refine h2 ?_
  rw [← e]
  refine List.mem_map.2 ⟨l[i], List.mem_iff_getElem.2 ⟨i, by rw [List.length_take]; omega, List.getElem_take⟩, rfl⟩
end Go.Proofs.YtpldhempbdionaaGreatDoor.Dg
/- Trees of lists in plain Lean: what package tree computes. No program in sight. No conditions. -/
namespace Go.Proofs.YtpldhempbdionaaGreatDoor.Dg
def halfF : Nat → Nat → Nat → Nat
  | 0, k, _ => k
  | f + 1, k, n => if 2 * k < n then halfF f (2 * k) n else k
def half (n : Nat) : Nat := halfF n 1 n
def sEmpty : ByteArray := ⟨#[101, 109, 112, 116, 121]⟩
def sLeaf : ByteArray := ⟨#[108, 101, 97, 102]⟩
def sNode : ByteArray := ⟨#[110, 111, 100, 101]⟩
def emptyB : ByteArray := listB [sEmpty]
def leafB (s : ByteArray) : ByteArray := listB [sLeaf, s]
def nodeB (a b : ByteArray) : ByteArray := listB [sNode, a, b]
def rootF : Nat → List ByteArray → ByteArray
  | 0, _ => emptyB
  | _ + 1, [] => emptyB
  | _ + 1, [s] => leafB s
  | f + 1, s :: t :: r => nodeB (rootF f ((s :: t :: r).take (half (r.length + 2)))) (rootF f ((s :: t :: r).drop (half (r.length + 2))))
def root (l : List ByteArray) : ByteArray := rootF l.length l
/-- The path of an element: first the lowest. -/
def pathF : Nat → List ByteArray → Nat → List ByteArray
  | 0, _, _ => []
  | f + 1, l, i => if l.length ≤ 1 then [] else
      let k := half l.length
      if i < k then pathF f (l.take k) i ++ [root (l.drop k)] else pathF f (l.drop k) (i - k) ++ [root (l.take k)]
def path (l : List ByteArray) (i : Nat) : List ByteArray := pathF l.length l i
/-- The link of m in a list. -/
def linkF : Nat → List ByteArray → Nat → Bool → List ByteArray
  | 0, l, _, whole => if whole then [] else [root l]
  | f + 1, l, m, whole => if m = l.length then (if whole then [] else [root l]) else
      let k := half l.length
      if m ≤ k then linkF f (l.take k) m whole ++ [root (l.drop k)] else linkF f (l.drop k) (m - k) false ++ [root (l.take k)]
def link (l : List ByteArray) (m : Nat) (whole : Bool) : List ByteArray := linkF l.length l m whole
end Go.Proofs.YtpldhempbdionaaGreatDoor.Dg
/- Paths and links that are handed in, in plain Lean: what Check and Extends compute; the path read from its end (reversed). No program in sight. -/
namespace Go.Proofs.YtpldhempbdionaaGreatDoor.Dg
def lengthF : Nat → Nat → Nat → Nat
  | 0, _, _ => 0
  | f + 1, n, i => if n ≤ 1 then 0 else if i < half n then 1 + lengthF f (half n) i else 1 + lengthF f (n - half n) (i - half n)
def length (n i : Nat) : Nat := lengthF n n i
def upF : Nat → Nat → Nat → ByteArray → List ByteArray → ByteArray
  | 0, _, _, d, _ => d
  | f + 1, n, i, d, r => if n ≤ 1 then d else if i < half n then nodeB (upF f (half n) i d r.tail) (r.headD ⟨#[]⟩) else nodeB (r.headD ⟨#[]⟩) (upF f (n - half n) (i - half n) d r.tail)
def up (n i : Nat) (d : ByteArray) (r : List ByteArray) : ByteArray := upF n n i d r
end Go.Proofs.YtpldhempbdionaaGreatDoor.Dg
/- The laws of trees in plain Lean: paths prove elements, links prove extensions, and what equal roots show. No program in sight. -/
namespace Go.Proofs.YtpldhempbdionaaGreatDoor.Dg
/-- Two different texts of a list have one digest. -/
def Shown (l : List ByteArray) : Prop := ∃ a, a ∈ l ∧ ∃ b, b ∈ l ∧ a ≠ b ∧ sumB a = sumB b
theorem Shown.mono {l m : List ByteArray} (h : Shown l) (hs : ∀ x ∈ l, x ∈ m) : Shown m := by
  obtain ⟨a, ha, b, hb, hne, he⟩ := h
  exact ⟨a, hs a ha, b, hs b hb, hne, he⟩
def jB (l : List ByteArray) : ByteArray := B (joinedL l)
/-! The texts that are digested for a root. -/
def textsF : Nat → List ByteArray → List ByteArray
  | 0, _ => [jB [sEmpty]]
  | _ + 1, [] => [jB [sEmpty]]
  | _ + 1, [s] => [jB [sLeaf, s]]
  | f + 1, s :: t :: r => (textsF f ((s :: t :: r).take (half (r.length + 2))) ++ textsF f ((s :: t :: r).drop (half (r.length + 2)))) ++ [jB [sNode, root ((s :: t :: r).take (half (r.length + 2))), root ((s :: t :: r).drop (half (r.length + 2)))]]
def texts (l : List ByteArray) : List ByteArray := textsF l.length l
/-! P2.4: equal roots. -/
/-! P2.2: the path proves the element. -/
/-! P2.3: what a path that proves another string shows. -/
end Go.Proofs.YtpldhempbdionaaGreatDoor.Dg
/- Beginnings of codes, codes without a number or a repealed article, fields and leaves, in plain Lean. No program in sight. -/
namespace Go.Proofs.YtpldhempbdionaaGreatDoor.Dg
open Go
/-! Beginnings. -/
/-! Walks that differ in nothing that counts. -/
/-! Without an article. -/
/-! Leaves and fields. -/
def sD : ByteArray := ⟨#[100]⟩
def sA : ByteArray := ⟨#[97]⟩
def sG : ByteArray := ⟨#[103]⟩
def leafI (x : It) : ByteArray := jB [if x.kind = 1 then sD else sA, x.id, x.parent, x.north, x.south]
def leavesOf (l : List It) : List ByteArray := (l.filter fun x => !x.gone).map leafI
def leavesC (l : List It) : List ByteArray := if validC l then leavesOf l else []
end Go.Proofs.YtpldhempbdionaaGreatDoor.Dg
/- Digests of codes, in plain Lean: the joined fields tell valid codes apart. No program in sight. -/
namespace Go.Proofs.YtpldhempbdionaaGreatDoor.Dg
open Go
def kindW (x : It) : ByteArray := if x.kind = 1 then sD else if x.gone then sG else sA
def fieldsI (x : It) : List ByteArray := [kindW x, x.id, x.parent, x.number, x.north, x.south]
def fieldsC (l : List It) : List ByteArray := l.flatMap fieldsI
def digestC (l : List It) : ByteArray := if validC l then listB (fieldsC l) else nil8
theorem valid_proper {l : List It} (h : validC l = true) : ∀ x ∈ l, properI x = true := fun x hx => by
  obtain ⟨s, hw, _⟩ := valid_walk h
  obtain ⟨k, hk, rfl⟩ := List.mem_iff_getElem.1 hx
  obtain ⟨_, _, _, _, _, hp⟩ := visit_at (Nat.le_refl _) hw hk
  exact hp
theorem proper_kind {x : It} (h : properI x = true) : (x.kind = 1 ∧ x.gone = false ∧ x.north = nil8 ∧ x.south = nil8) ∨ (x.kind = 2 ∧ x.north.size ≤ 400 ∧ x.south.size ≤ 400) := by
  unfold properI at h
  split at h
  · rename_i h1
    simp only [Bool.and_eq_true, decide_eq_true_eq, Bool.not_eq_true'] at h
    exact Or.inl ⟨h1, h.2.2.2.2, h.2.2.1, h.2.2.2.1⟩
  · split at h
    · rename_i h2
      simp only [Bool.and_eq_true, decide_eq_true_eq] at h
      exact Or.inr ⟨h2, h.2.2.1, h.2.2.2⟩
    · cases h
/-- As many leaves as items that are not gone. -/
theorem leaves_len (l : List It) : (leavesOf l).length = l.countP fun x => !x.gone := by
  unfold leavesOf
  rw [List.length_map, List.countP_eq_length_filter]
end Go.Proofs.YtpldhempbdionaaGreatDoor.Dg
/- Texts of codes, in plain Lean: their lines, how long they are, beginnings. No program in sight. -/
namespace Go.Proofs.YtpldhempbdionaaGreatDoor.Dg
open Go
/-- A byte as it stands in quotes. -/
def escC (c : UInt8) : List UInt8 := if c = 92 then [92, 92] else if c = 34 then [92, 34] else if c = 10 then [92, 110] else [c]
def escL (l : List UInt8) : List UInt8 := l.flatMap escC
def quoteL (l : List UInt8) : List UInt8 := 34 :: (escL l ++ [34])
def orL (l : List UInt8) : List UInt8 := if l = [] then [45] else l
def wDiv : List UInt8 := [100, 105, 118, 105, 115, 105, 111, 110]
def wArt : List UInt8 := [97, 114, 116, 105, 99, 108, 101]
def wRep : List UInt8 := [114, 101, 112, 101, 97, 108, 101, 100]
/-- The words of an item. -/
def wordsI (x : It) : List (List UInt8) :=
  if x.kind = 1 then [wDiv, L x.id, orL (L x.parent), orL (L x.number)]
  else [if x.gone then wRep else wArt, L x.id, orL (L x.parent), orL (L x.number), quoteL (L x.north), quoteL (L x.south)]
/-- Words with blanks between them. -/
def joinW : List (List UInt8) → List UInt8
  | [] => []
  | [a] => a
  | a :: b :: r => a ++ 32 :: joinW (b :: r)
def lineL (x : It) : List UInt8 := joinW (wordsI x) ++ [10]
def textL (l : List It) : List UInt8 := l.flatMap lineL
theorem escL_len (l : List UInt8) : (escL l).length ≤ 2 * l.length := by
  induction l with
  | nil => exact Nat.le_refl _
  | cons c l ih =>
    have h : (escC c).length ≤ 2 := by unfold escC; split; exact Nat.le_refl _; split; exact Nat.le_refl _; split; exact Nat.le_refl _; simp
    unfold escL at ih ⊢
    rw [List.flatMap_cons, List.length_append, List.length_cons]
    omega
theorem joinW_len : ∀ (ws : List (List UInt8)) (n : Nat), (∀ w ∈ ws, w.length ≤ n) → (joinW ws).length ≤ ws.length * (n + 1)
  | [], _, _ => Nat.zero_le _
  | [a], n, h => by
    have := h a (List.mem_cons_self ..)
    show a.length ≤ 1 * (n + 1)
    omega
  | a :: b :: r, n, h => by
    have h1 := h a (List.mem_cons_self ..)
    have h2 := joinW_len (b :: r) n (fun w hw => h w (List.mem_cons_of_mem _ hw))
    rw [joinW, List.length_append, List.length_cons, List.length_cons, Nat.add_mul]
    omega
/-- What Text answers. -/
def textC (l : List It) : ByteArray × Int := if validC l then (if 1000000 < (textL l).length then (nil8, 2) else (B (textL l), 0)) else (nil8, 1)
end Go.Proofs.YtpldhempbdionaaGreatDoor.Dg
/- The text of a code is read back, in plain Lean: the scanner of the program. No program in sight. -/
namespace Go.Proofs.YtpldhempbdionaaGreatDoor.Dg
open Go
/-- What comes before one of some bytes, and what comes behind this byte. -/
def untilP (st : List UInt8) : List UInt8 → List UInt8 × List UInt8
  | [] => ([], [])
  | c :: r => if st.contains c then ([], r) else (c :: (untilP st r).1, (untilP st r).2)
theorem untilP_at (st : List UInt8) (w : List UInt8) (c : UInt8) (r : List UInt8) (hw : ∀ d ∈ w, st.contains d = false) (hc : st.contains c = true) : untilP st (w ++ c :: r) = (w, r) := by
  induction w with
  | nil => rw [List.nil_append, untilP, if_pos hc]
  | cons d w ih =>
    rw [List.cons_append, untilP, if_neg (by rw [hw d (List.mem_cons_self ..)]; decide), ih (fun e he => hw e (List.mem_cons_of_mem _ he))]
/-- The byte at which untilP stops. -/
def stopAt (st : List UInt8) : List UInt8 → Option UInt8
  | [] => none
  | c :: r => if st.contains c then some c else stopAt st r
theorem stopAt_at (st : List UInt8) (w : List UInt8) (c : UInt8) (r : List UInt8) (hw : ∀ d ∈ w, st.contains d = false) (hc : st.contains c = true) : stopAt st (w ++ c :: r) = some c := by
  induction w with
  | nil => rw [List.nil_append, stopAt, if_pos hc]
  | cons d w ih =>
    rw [List.cons_append, stopAt, if_neg (by rw [hw d (List.mem_cons_self ..)]; decide), ih (fun e he => hw e (List.mem_cons_of_mem _ he))]
def unesc (c : UInt8) : UInt8 := if c = 110 then 10 else c
/-- The inside of a quoted string: f rounds at most. -/
def insideP : Nat → List UInt8 → List UInt8 × List UInt8
  | 0, r => ([], r)
  | f + 1, r => match (untilP [92, 34] r).2 with
    | [] => ((untilP [92, 34] r).1, [])
    | c :: r' => if stopAt [92, 34] r = some 92 then ((untilP [92, 34] r).1 ++ unesc c :: (insideP f r').1, (insideP f r').2) else ((untilP [92, 34] r).1, c :: r')
/-- A quoted string, and what is left. -/
def quoteP (r : List UInt8) : List UInt8 × List UInt8 := ((insideP r.length (untilP [34] r).2).1, (insideP r.length (untilP [34] r).2).2.tail)
def plain8 (c : UInt8) : Bool := !(c == 92) && (!(c == 34) && !(c == 10))
theorem esc_plain {c : UInt8} (h : plain8 c = true) : escC c = [c] := by
  unfold plain8 at h
  simp only [Bool.and_eq_true, Bool.not_eq_true', beq_eq_false_iff_ne] at h
  unfold escC
  rw [if_neg h.1, if_neg h.2.1, if_neg h.2.2]
theorem esc_other {c : UInt8} (h : plain8 c = false) : ∃ d, escC c = [92, d] ∧ unesc d = c := by
  unfold plain8 at h
  by_cases h1 : c = 92
  · subst h1; exact ⟨92, rfl, rfl⟩
  · by_cases h2 : c = 34
    · subst h2; exact ⟨34, rfl, rfl⟩
    · by_cases h3 : c = 10
      · subst h3; exact ⟨110, rfl, rfl⟩
      · simp [h1, h2, h3] at h
/-- The inside of quotes is read back. -/
theorem insideP_esc : ∀ (f : Nat) (n : List UInt8) (c : UInt8) (r : List UInt8), n.length < f → insideP f (escL n ++ 34 :: c :: r) = (n, c :: r)
  | 0, n, _, _, h => by omega
  | f + 1, n, c, r, h => by
    -- the longest beginning without escapes
    have split : ∀ m : List UInt8, (∃ w, (∀ d ∈ w, plain8 d = true) ∧ m = w) ∨ ∃ w d m', (∀ d ∈ w, plain8 d = true) ∧ plain8 d = false ∧ m = w ++ d :: m' := by
      intro m
      induction m with
      | nil => exact Or.inl ⟨[], by simp, rfl⟩
      | cons a m ih =>
        cases ha : plain8 a with
        | false => exact Or.inr ⟨[], a, m, by simp, ha, rfl⟩
        | true =>
          rcases ih with ⟨w, h1, h2⟩ | ⟨w, d, m', h1, h2, h3⟩
          · exact Or.inl ⟨a :: w, by simpa [ha] using h1, by rw [h2]⟩
          · exact Or.inr ⟨a :: w, d, m', by simpa [ha] using h1, h2, by rw [h3]; rfl⟩
    have hesc : ∀ w : List UInt8, (∀ d ∈ w, plain8 d = true) → escL w = w := fun w hw => by
      induction w with
      | nil => rfl
      | cons a w ih =>
        unfold escL at ih ⊢
        rw [List.flatMap_cons, esc_plain (hw a (List.mem_cons_self ..)), ih (fun d hd => hw d (List.mem_cons_of_mem _ hd))]
        rfl
    have hst : ∀ w : List UInt8, (∀ d ∈ w, plain8 d = true) → ∀ d ∈ w, [92, 34].contains d = false := fun w hw d hd => by
      have := hw d hd
      unfold plain8 at this
      simp only [Bool.and_eq_true, Bool.not_eq_true', beq_eq_false_iff_ne] at this
      simp [this.1, this.2.1]
    rcases split n with ⟨w, hw, rfl⟩ | ⟨w, d, m, hw, hd, rfl⟩
    · rw [hesc n hw, insideP, untilP_at _ n 34 (c :: r) (hst n hw) (by decide), stopAt_at _ n 34 (c :: r) (hst n hw) (by decide)]
      simp only
      rw [if_neg (by decide)]
    · obtain ⟨e, he1, he2⟩ := esc_other hd
      have hl : escL (w ++ d :: m) ++ 34 :: c :: r = w ++ 92 :: e :: (escL m ++ 34 :: c :: r) := by
        unfold escL
        rw [List.flatMap_append, List.flatMap_cons, he1]
        have := hesc w hw
        unfold escL at this
        rw [this]
        simp
      rw [hl, insideP, untilP_at _ w 92 _ (hst w hw) (by decide), stopAt_at _ w 92 _ (hst w hw) (by decide)]
      simp only
      rw [if_pos trivial, insideP_esc f m c r (by rw [List.length_append, List.length_cons] at h; omega), he2]
theorem quoteP_at (n : List UInt8) (c : UInt8) (r : List UInt8) : quoteP (quoteL n ++ c :: r) = (n, r) := by
  have h0 : untilP [34] (quoteL n ++ c :: r) = ([], escL n ++ 34 :: c :: r) := by
    have := untilP_at [34] [] 34 (escL n ++ 34 :: c :: r) (by simp) (by decide)
    unfold quoteL
    rw [List.cons_append, List.append_assoc]
    simpa using this
  have hlen : n.length < (quoteL n ++ c :: r).length := by
    have h1 : ∀ m : List UInt8, m.length ≤ (escL m).length := fun m => by
      induction m with
      | nil => exact Nat.le_refl _
      | cons a m ih =>
        have : 1 ≤ (escC a).length := by unfold escC; split; decide; split; decide; split; decide; simp
        unfold escL at ih ⊢
        rw [List.flatMap_cons, List.length_append, List.length_cons]
        omega
    have := h1 n
    unfold quoteL
    simp only [List.length_append, List.length_cons, List.length_nil]
    omega
  unfold quoteP
  rw [h0, insideP_esc _ n c r hlen]
  rfl
end Go.Proofs.YtpldhempbdionaaGreatDoor.Dg
/- Runes of whatever bytes; what comes before one of some bytes, by the index of this byte. No program in sight. -/
namespace Go.Proofs.YtpldhempbdionaaGreatDoor
open Go
/-- A rune that begins with a byte from 128 on: so are all its bytes; it is no byte below 128 itself. -/
theorem decode_wide (s : ByteArray) (i : Nat) (hi : i < s.size) (h : 128 ≤ (s.get! i).toNat) :
    128 ≤ (Utf8.decode s i).1 ∧ 1 ≤ (Utf8.decode s i).2 ∧ i + (Utf8.decode s i).2 ≤ s.size ∧ (∀ j, j < (Utf8.decode s i).2 → 128 ≤ (s.get! (i + j)).toNat) ∧ ((Utf8.decode s i).1 < 55296 ∨ (57343 < (Utf8.decode s i).1 ∧ (Utf8.decode s i).1 ≤ 1114111)) := by
  have one : ∀ v : Nat, v = 65533 → 128 ≤ v ∧ 1 ≤ 1 ∧ i + 1 ≤ s.size ∧ (∀ j, j < 1 → 128 ≤ (s.get! (i + j)).toNat) ∧ (v < 55296 ∨ (57343 < v ∧ v ≤ 1114111)) := fun v hv => ⟨by omega, Nat.le_refl _, by omega, fun j hj => by
    obtain rfl : j = 0 := by omega
    exact h, by omega⟩
  unfold Utf8.decode
  simp only [Nat.add_zero]
  rw [if_neg (by omega)]
  split
  · rename_i h2
    simp only [Bool.and_eq_true, beq_iff_eq, decide_eq_true_eq] at h2
    split
    · rename_i h3
      exact ⟨by simpa using h3, Nat.succ_le_succ (Nat.zero_le _), by omega, fun j hj => by
        match j, hj with
        | 0, _ => exact h
        | 1, _ => omega, by
        left
        have h4 := (s.get! i).toNat_lt
        show _ % 32 * 64 + _ % 64 < _
        omega⟩
    · exact one _ rfl
  · split
    · rename_i h2
      simp only [Bool.and_eq_true, beq_iff_eq, decide_eq_true_eq] at h2
      split
      · rename_i h3
        simp only [Bool.and_eq_true, decide_eq_true_eq] at h3
        refine ⟨Nat.le_trans (by decide) h3.1, Nat.succ_le_succ (Nat.zero_le _), by show i + 3 ≤ s.size; omega, fun j hj => ?_, ?_⟩
        · match j, hj with
          | 0, _ => exact h
          | 1, _ => omega
          | 2, _ => omega
        · have h5 := h3.2
          unfold Utf8.valid at h5
          simp only [Bool.or_eq_true, Bool.and_eq_true, decide_eq_true_eq] at h5
          omega
      · exact one _ rfl
    · split
      · rename_i h2
        simp only [Bool.and_eq_true, beq_iff_eq, decide_eq_true_eq] at h2
        split
        · rename_i h3
          simp only [Bool.and_eq_true, decide_eq_true_eq] at h3
          refine ⟨Nat.le_trans (by decide) h3.1, Nat.succ_le_succ (Nat.zero_le _), by show i + 4 ≤ s.size; omega, fun j hj => ?_, ?_⟩
          · match j, hj with
            | 0, _ => exact h
            | 1, _ => omega
            | 2, _ => omega
            | 3, _ => omega
          · have h5 := h3.2
            unfold Utf8.valid at h5
            simp only [Bool.or_eq_true, Bool.and_eq_true, decide_eq_true_eq] at h5
            omega
        · exact one _ rfl
      · exact one _ rfl
theorem until_index (st : List UInt8) : ∀ r : List UInt8, (Lib.indexAny r st = -1 ∧ Dg.untilP st r = (r, []) ∧ Dg.stopAt st r = none) ∨ ∃ k : Nat, Lib.indexAny r st = (k : Int) ∧ k < r.length ∧ Dg.untilP st r = (r.take k, r.drop (k + 1)) ∧ Dg.stopAt st r = r[k]?
  | [] => Or.inl ⟨rfl, rfl, rfl⟩
  | c :: r => by
    cases hc : st.contains c with
    | true =>
      refine Or.inr ⟨0, ?_, by simp, ?_, ?_⟩
      · rw [Lib.indexAny, if_pos hc]; rfl
      · rw [Dg.untilP, if_pos hc]; rfl
      · rw [Dg.stopAt, if_pos hc]; rfl
    | false =>
      have hn : ¬ st.contains c = true := by rw [hc]; decide
      rcases until_index st r with ⟨h1, h2, h3⟩ | ⟨k, h1, h2, h3, h4⟩
      · refine Or.inl ⟨?_, ?_, ?_⟩
        · rw [Lib.indexAny, if_neg hn, h1]; rfl
        · rw [Dg.untilP, if_neg hn, h2]
        · rw [Dg.stopAt, if_neg hn, h3]
      · refine Or.inr ⟨k + 1, ?_, by simpa using h2, ?_, ?_⟩
        · rw [Lib.indexAny, if_neg hn, h1, if_neg (by
            intro e
            have := beq_iff_eq.1 e
            omega)]
          rfl
        · rw [Dg.untilP, if_neg hn, h3, List.take_succ_cons, List.drop_succ_cons]
        · rw [Dg.stopAt, if_neg hn, h4, List.getElem?_cons_succ]
end Go.Proofs.YtpldhempbdionaaGreatDoor
/- strings.IndexRune at a rune from 128 on, in two bytes below 128. No conditions but those that each theorem states. -/
namespace Go.Proofs.YtpldhempbdionaaGreatDoor
open Go Go.RowKit Go.Sort
theorem encode_wide (r : Int) (hr : 128 ≤ r) (hv : r < 55296 ∨ (57343 < r ∧ r ≤ 1114111)) :
    (∃ b0 b1 : UInt8, 128 ≤ b1.toNat ∧ Utf8.encode r = ⟨#[b0, b1]⟩) ∨ (∃ b0 b1 b2 : UInt8, Utf8.encode r = ⟨#[b0, b1, b2]⟩) ∨ (∃ b0 b1 b2 b3 : UInt8, Utf8.encode r = ⟨#[b0, b1, b2, b3]⟩) := by
  have hval : Utf8.valid r = true := by
    unfold Utf8.valid
    simp only [Bool.or_eq_true, Bool.and_eq_true, decide_eq_true_eq]
    omega
  unfold Utf8.encode
  simp only [hval, if_true]
  rw [if_neg (by omega)]
  split
  · refine Or.inl ⟨_, _, ?_, rfl⟩
    rw [UInt8.toNat_ofNat']
    omega
  · split
    · exact Or.inr (Or.inl ⟨_, _, _, rfl⟩)
    · exact Or.inr (Or.inr ⟨_, _, _, _, rfl⟩)
set_option maxHeartbeats 4000000 in
set_option maxRecDepth 1000000 in
theorem idxrune_err (s : ByteArray) (hs : ∀ (i : Nat) (h : i < s.size), (s[i]'h).toNat < 128) (w : World) :
    Calls Tryz.prog 108 #[.string s, .int .i32 65533] w fun e w' => e = .returned (.int .i64 (-1)) ∧ Below w.heap.size w w' := by
  have HS := hide hs
  clear hs
  go_enter Tryz.func108, Tryz.ntmps108
  go_wp2
  go_loopg [5, 6] s.size (fun g _ _ wx => ∃ i : Nat, i + g = s.size ∧ wx = w.iter s i)
  case atStart => exact ⟨0, by omega, rfl⟩
  case round =>
    obtain ⟨i, hig, rfl⟩ := hrel
    cases gk with
    | zero =>
      obtain rfl : i = s.size := by omega
      have hnx := run_next_end (P := Tryz.prog) w s s.size
      go_wp2
      go_ret
      exact ⟨rfl, (Below.refl _ _).alloc (Nat.le_refl _) _⟩
    | succ g =>
      have hi : i < s.size := by omega
      have hx128 := HS.out i hi
      have hnx := fun ty => run_next_ascii (P := Tryz.prog) w s i ty hi hx128
      obtain ⟨x, hx⟩ : ∃ x : UInt8, s[i]'hi = x := ⟨_, rfl⟩
      rw [hx] at hnx hx128
      clear hx
      have hne : ¬ ((x.toNat : Int) = 65533) := by omega
      go_wp2
      go_roundg g
      case measure => omega
      case rel => exact ⟨i + 1, by omega, rfl⟩
theorem idxb_nil (s : ByteArray) (c : Int) (h : s.data.toList = []) (w : World) : Calls Tryz.prog 123 #[.string s, .int .u8 c] w fun e w' => e = .returned (.int .i64 (-1)) ∧ w' = w :=
  (Tryz.strings_IndexByte s c w).mono fun e w' ⟨h1, h2⟩ => ⟨by rw [h1, h]; rfl, h2⟩
set_option maxHeartbeats 4000000 in
set_option maxRecDepth 1000000 in
theorem idxrune_wide (a0 a1 : UInt8) (h0 : a0.toNat < 128) (h1 : a1.toNat < 128) (r : Int) (hr : 128 ≤ r) (hv : r < 55296 ∨ (57343 < r ∧ r ≤ 1114111)) (w : World) :
    Calls Tryz.prog 108 #[.string ⟨#[a0, a1]⟩, .int .i32 r] w fun e w' => e = .returned (.int .i64 (-1)) ∧ Below w.heap.size w w' := by
  by_cases he : r = 65533
  · subst he
    refine idxrune_err _ (fun i h => ?_) w
    match i, h with
    | 0, _ => exact h0
    | 1, _ => exact h1
  · have hval : Lib.validRune r = true := by
      unfold Lib.validRune
      exact decide_eq_true (by omega)
    have hE := encode_wide r hr hv
    have hcv : ∀ w, (convert 21 9 (.int .i32 r)).run Tryz.prog w = .ok (.string (Utf8.encode r)) w := fun w => run_convert_int_string w _ _ _ _ (by kernel_rfl) (by kernel_rfl)
    have hr1 : (0 : Int) ≤ r := by omega
    have hr2 : ¬ r < 128 := by omega
    clear hv hr
    go_enter Tryz.func108, Tryz.ntmps108
    go_wp2_with fail
    refine (Tryz.utf8_ValidRune r w).mono ?_
    rintro e w' ⟨rfl, hw⟩
    subst hw
    rw [hval]
    rcases hE with ⟨b0, b1, hb1, hE⟩ | ⟨b0, b1, b2, hE⟩ | ⟨b0, b1, b2, b3, hE⟩
    · go_wp2
      go_step3
      go_wp2
      go_loopw [9, 10, 11, 12] (fun iv _ _ _ wr => iv = .int .i64 1 ∧ wr = w') (fun _ _ _ _ _ => 0)
      case atStart => exact ⟨rfl, rfl⟩
      case round =>
        obtain ⟨rfl, rfl⟩ := hrel
        go_wp2
        go_step3
        have hne0 : ((a1.toNat : Int) != (b1.toNat : Int)) = true := bne_iff_ne.2 (by omega)
        have hz0 : 1 < (⟨#[a0, a1]⟩ : ByteArray).size := by show 1 < 2; omega
        have hz1 : 1 < (⟨#[b0, b1]⟩ : ByteArray).size := by show 1 < 2; omega
        have hne : (((((⟨#[a0, a1]⟩ : ByteArray)[1]'hz0).toNat : Nat) : Int) != ((((⟨#[b0, b1]⟩ : ByteArray)[1]'hz1).toNat : Nat) : Int)) = true := hne0
        have hw2 : IntKind.i64.wrap 2 = 2 := by decide
        go_wp2_with fail
        go_quiet (fail)
        have hq : Below wr.heap.size wr (wr.drewN nq) := ⟨rfl, rfl, rfl, Nat.le_refl _, fun _ _ => rfl⟩
        generalize wr.drewN nq = wq at *
        go_wp2_with fail
        go_quiet ((go_at_call 123; exact Calls.quiet_of_same (idxb_nil ByteArray.empty _ rfl _)))
        have hq2 : Below wr.heap.size wr (wq.drewN nq) := ⟨hq.os, hq.tape, hq.output, hq.size, hq.block⟩
        generalize wq.drewN nq = wz at *
        go_wp2
        rw [Exit.noGoto_ret]
        go_wp2
        rw [Exit.noGoto_ret]
        go_ret
        exact ⟨rfl, hq2⟩
    · go_wp2
      go_step3
      go_wp2
      go_loopw [9, 10, 11, 12] (fun iv _ _ _ wr => iv = .int .i64 2 ∧ wr = w') (fun _ _ _ _ _ => 0)
      case atStart => exact ⟨rfl, rfl⟩
      case round =>
        obtain ⟨rfl, rfl⟩ := hrel
        go_wp2
        rw [Exit.noGoto_ret]
        go_ret
        exact ⟨rfl, Below.refl _ _⟩
    · go_wp2
      go_step3
      go_wp2
      go_loopw [9, 10, 11, 12] (fun iv _ _ _ wr => iv = .int .i64 3 ∧ wr = w') (fun _ _ _ _ _ => 0)
      case atStart => exact ⟨rfl, rfl⟩
      case round =>
        obtain ⟨rfl, rfl⟩ := hrel
        go_wp2
        rw [Exit.noGoto_ret]
        go_ret
        exact ⟨rfl, Below.refl _ _⟩
end Go.Proofs.YtpldhempbdionaaGreatDoor
/- The scanner's steps: where a byte stops it, quoted strings round by round. No program in sight. -/
namespace Go.Proofs.YtpldhempbdionaaGreatDoor.Dg
open Go
theorem until_split (st : List UInt8) : ∀ r : List UInt8, (untilP st r).2 ≠ [] → ∃ c, stopAt st r = some c ∧ r = (untilP st r).1 ++ c :: (untilP st r).2
  | [], h => absurd rfl h
  | c :: r, h => by
    cases hc : st.contains c with
    | true => exact ⟨c, by rw [stopAt, if_pos hc], by rw [untilP, if_pos hc]; rfl⟩
    | false =>
      have hn : ¬ st.contains c = true := by rw [hc]; decide
      rw [untilP, if_neg hn] at h ⊢
      obtain ⟨d, h1, h2⟩ := until_split st r h
      exact ⟨d, by rw [stopAt, if_neg hn, h1], by conv => lhs; rw [h2]
                                                  rfl⟩
theorem until_tail (st : List UInt8) : ∀ r : List UInt8, ∃ q, r = q ++ (untilP st r).2
  | [] => ⟨[], rfl⟩
  | c :: r => by
    rw [untilP]
    split
    · exact ⟨[c], rfl⟩
    · obtain ⟨q, hq⟩ := until_tail st r
      exact ⟨c :: q, by conv => lhs; rw [hq]
                        rfl⟩
theorem until_le (st : List UInt8) : ∀ r : List UInt8, (untilP st r).1.length + (untilP st r).2.length ≤ r.length
  | [] => Nat.le_refl _
  | c :: r => by
    have := until_le st r
    rw [untilP]
    split
    · simp
    · simp only [List.length_cons]; omega
/-- A round of the inside of quotes. -/
theorem inside_step (f : Nat) (r : List UInt8) (h : r.length ≤ f) :
    ((untilP [92, 34] r).2 = [] ∧ insideP f r = ((untilP [92, 34] r).1, [])) ∨
    (∃ c r', (untilP [92, 34] r).2 = c :: r' ∧ stopAt [92, 34] r = some 92 ∧ r'.length < r.length ∧ r'.length ≤ f - 1 ∧ insideP f r = ((untilP [92, 34] r).1 ++ unesc c :: (insideP (f - 1) r').1, (insideP (f - 1) r').2)) ∨
    (∃ c r', (untilP [92, 34] r).2 = c :: r' ∧ stopAt [92, 34] r ≠ some 92 ∧ insideP f r = ((untilP [92, 34] r).1, c :: r')) := by
  cases f with
  | zero =>
    obtain rfl : r = [] := List.length_eq_zero_iff.1 (by omega)
    exact Or.inl ⟨rfl, rfl⟩
  | succ f =>
    have hl := until_le [92, 34] r
    cases hu : (untilP [92, 34] r).2 with
    | nil =>
      refine Or.inl ⟨rfl, ?_⟩
      rw [insideP, hu]
    | cons c r' =>
      obtain ⟨d, hd, he⟩ := until_split [92, 34] r (by rw [hu]; simp)
      rw [hu] at hl
      simp only [List.length_cons] at hl
      refine Or.inr ?_
      by_cases h92 : stopAt [92, 34] r = some 92
      · refine Or.inl ⟨c, r', rfl, h92, by omega, by omega, ?_⟩
        rw [insideP, hu]
        simp only
        rw [if_pos h92]
        rfl
      · refine Or.inr ⟨c, r', rfl, h92, ?_⟩
        rw [insideP, hu]
        simp only
        rw [if_neg h92]
end Go.Proofs.YtpldhempbdionaaGreatDoor.Dg
namespace Go.Proofs.YtpldhempbdionaaGreatDoor
open Go
/-- What comes before one of some bytes, and what is left, as strings. -/
def unt1 (st : List UInt8) (s : ByteArray) : ByteArray := Dg.B (Dg.untilP st (Dg.L s)).1
def unt2 (st : List UInt8) (s : ByteArray) : ByteArray := Dg.B (Dg.untilP st (Dg.L s)).2
theorem unt_L (st : List UInt8) (s : ByteArray) : Dg.L (unt1 st s) = (Dg.untilP st (Dg.L s)).1 ∧ Dg.L (unt2 st s) = (Dg.untilP st (Dg.L s)).2 := ⟨Dg.L_B _, Dg.L_B _⟩
theorem unt_size (st : List UInt8) (s : ByteArray) : (unt1 st s).size + (unt2 st s).size ≤ s.size := by
  have h := Dg.until_le st (Dg.L s)
  have h1 : (Dg.L (unt1 st s)).length = (unt1 st s).size := rfl
  have h2 : (Dg.L (unt2 st s)).length = (unt2 st s).size := rfl
  rw [(unt_L st s).1] at h1
  rw [(unt_L st s).2] at h2
  have h3 : (Dg.L s).length = s.size := rfl
  omega
theorem unt_ext (st : List UInt8) (s : ByteArray) : (Lib.indexAny (Dg.L s) st = -1 ∧ unt1 st s = s ∧ unt2 st s = Dg.nil8) ∨ ∃ k : Nat, Lib.indexAny (Dg.L s) st = (k : Int) ∧ k < s.size ∧ unt1 st s = s.extract 0 k ∧ unt2 st s = s.extract (k + 1) s.size := by
  rcases until_index st (Dg.L s) with ⟨h1, h2, _⟩ | ⟨k, h1, h2, h3, _⟩
  · refine Or.inl ⟨h1, ?_, ?_⟩
    · unfold unt1; rw [h2, Dg.B_L]
    · unfold unt2; rw [h2]; rfl
  · refine Or.inr ⟨k, h1, h2, ?_, ?_⟩
    · apply Dg.L_inj
      rw [(unt_L st s).1, h3, Dg.L_extract, List.drop_zero]
    · apply Dg.L_inj
      rw [(unt_L st s).2, h3, Dg.L_extract, show (Dg.L s).take s.size = Dg.L s from List.take_of_length_le (Nat.le_of_eq (Dg.len_L s))]
end Go.Proofs.YtpldhempbdionaaGreatDoor
namespace Go.Proofs.YtpldhempbdionaaGreatDoor
open Go Go.RowKit
theorem len_toList (s : ByteArray) : s.data.toList.length = s.size := Array.length_toList
/-- Eight bytes: those of a string, then zeros. -/
def pad8 (s : ByteArray) : Array Value := ((List.range 8).map fun i => Value.int .u8 ((s.data.toList.getD i 0).toNat : Int)).toArray
theorem pad8_get (s : ByteArray) (i : Nat) (h : i < 8) : (pad8 s)[i]? = some (.int .u8 ((s.data.toList.getD i 0).toNat : Int)) := by
  simp only [pad8, List.getElem?_toArray, List.getElem?_map, List.getElem?_range h, Option.map_some]
theorem pad8_eq (s : ByteArray) (h : s.size ≤ 8) (z : List Value) (hz : z = List.replicate 8 (.int .u8 0)) :
    (s.data.toList.map (fun b => Value.int .u8 (b.toNat : Int)) ++ z.drop s.size).toArray = pad8 s := by
  unfold pad8
  congr 1
  have hl := len_toList s
  apply List.ext_getElem?
  intro i
  rw [List.getElem?_append, List.length_map, hl, List.getElem?_map, List.getElem?_map]
  by_cases h1 : i < s.size
  · rw [if_pos h1, List.getElem?_range (by omega), List.getElem?_eq_getElem (by omega)]
    simp only [Option.map_some]
    rw [List.getD_eq_getElem?_getD, List.getElem?_eq_getElem (by omega)]
    rfl
  · rw [if_neg h1, List.getElem?_drop, show s.size + (i - s.size) = i by omega, hz]
    by_cases h2 : i < 8
    · rw [List.getElem?_replicate, if_pos h2, List.getElem?_range h2]
      simp only [Option.map_some]
      rw [List.getD_eq_getElem?_getD, List.getElem?_eq_none (by omega)]
      rfl
    · rw [List.getElem?_replicate, if_neg h2, List.getElem?_eq_none (by rw [List.length_range]; omega)]
      rfl
theorem setRow_new (w : World) (A C : Array Value) (T : TypeId) : (w.alloc (.cells A T)).setRow w.heap.size C = w.alloc (.cells C T) := by
  unfold World.setRow World.alloc
  congr 1
  apply Array.ext
  · simp
  · intro k h1 h2
    simp only [Array.getElem_modify, Array.getElem_push]
    by_cases hk : w.heap.size = k
    · subst hk; simp
    · have hlt : k < w.heap.size := by simp at h1; omega
      simp [hk, hlt]
def zero8 : Array Value := #[.int .u8 0, .int .u8 0, .int .u8 0, .int .u8 0, .int .u8 0, .int .u8 0, .int .u8 0, .int .u8 0]
theorem run_copy8 {P : Program} (dT sT ty elem T : TypeId) (s : ByteArray) (h : s.size ≤ 8) (hu : P.underlying dT = some (.slice elem)) (hs : ((P.info? elem).map (·.size)) = some 1) (w : World) :
    (Builtin.copy_ #[dT, sT] ty #[.slice (some ⟨w.heap.size, 0, none⟩) 8 8, .string s]).run P (w.alloc (.cells zero8 T)) = .ok (goInt s.size) (w.alloc (.cells (pad8 s) T)) := by
  have hl : (s.data.toList.map (fun b => Value.int .u8 (b.toNat : Int))).length = s.size := by rw [List.length_map, len_toList]
  have hst := run_storeCells_at P w.heap.size 0 T (s.data.toList.map (fun b => Value.int .u8 (b.toNat : Int))) 0 zero8
    (w.alloc (.cells zero8 T)) (heap_alloc_new w _) (by rw [hl]; exact Nat.le_trans (by omega) (show 8 ≤ zero8.size from Nat.le_refl _)) (by
      intro v hv
      simp only [List.mem_map] at hv
      obtain ⟨b, _, rfl⟩ := hv
      rfl)
  rw [hl, setRow_new] at hst
  have e0 : zero8.toList.take (0 + 0) ++ s.data.toList.map (fun b => Value.int .u8 (b.toNat : Int)) ++ zero8.toList.drop (0 + 0 + s.size) = s.data.toList.map (fun b => Value.int .u8 (b.toNat : Int)) ++ zero8.toList.drop s.size := by
    simp only [Nat.add_zero, List.take_zero, List.nil_append, Nat.zero_add]
  rw [e0, pad8_eq s h zero8.toList rfl] at hst
  have e1 : ((s.extract 0 s.size).data.map fun b => Value.int .u8 (b.toNat : Int)).toList = s.data.toList.map (fun b => Value.int .u8 (b.toNat : Int)) := by
    rw [Array.toList_map]
    congr 2
    rw [ByteArray.data_extract]
    exact Array.extract_size
  cases hq : P.info? elem with
  | none => simp [hq] at hs
  | some i =>
    have hi : i.size = 1 := by simpa [hq] using hs
    have hmin : Nat.min s.size 8 = s.size := Nat.min_eq_left h
    obtain ⟨A, hA⟩ : ∃ A, A = (s.extract 0 s.size).data.map (fun b => Value.int .u8 (b.toNat : Int)) := ⟨_, rfl⟩
    have hst' : (storeCells ⟨w.heap.size, 0, none⟩ A.toList 0).run P (w.alloc (.cells zero8 T)) = .ok () (w.alloc (.cells (pad8 s) T)) := by rw [hA, e1]; exact hst
    have hfc : Builtin.firstCells 1 s.size (.string s) = pure A := by rw [hA]; rfl
    simp [Builtin.copy_, run_underlying hu, Builtin.lenOf, sizeOf, typeInfo, hq, hi, hmin, hfc, hst']
theorem or_byte (n c : Nat) (hc : c < 256) : n * 256 ||| c = n * 256 + c := by
  have := Nat.two_pow_add_eq_or_of_lt (i := 8) (b := c) (by omega) n
  rw [Nat.mul_comm, ← this]
theorem blk_step (n : Nat) (c : UInt8) (hn : n < 256 ^ 7) : bits .or .u64 ((n : Int) * 256) (IntKind.u64.wrap (c.toNat : Int)) = ((n * 256 + c.toNat : Nat) : Int) := by
  have hc : c.toNat < 256 := c.toNat_lt
  have e1 : IntKind.u64.wrap (c.toNat : Int) = ((c.toNat : Nat) : Int) := by rw [IntKind.wrap_u64]; omega
  have e2 : ((n : Int) * 256) = ((n * 256 : Nat) : Int) := by omega
  rw [e1, e2, u64_or_nat _ _ (by omega) (by omega), or_byte _ _ hc]
theorem xor_u64 (a b : Nat) (ha : a < Dg.M) (hb : b < Dg.M) : bits .xor .u64 (a : Int) (b : Int) = ((a ^^^ b : Nat) : Int) := u64_xor_nat a b ha hb
theorem shr_int (a k : Nat) : ((a : Int) / ((2 ^ k : Nat) : Int)) = ((a >>> k : Nat) : Int) := by rw [Nat.shiftRight_eq_div_pow]; rfl
def mulM (x y : Nat) : Nat := x * y % Dg.M
def mulH (x y : Nat) : Nat := x * y / Dg.M
theorem mulM_lt (x y : Nat) : mulM x y < Dg.M := Nat.mod_lt _ Dg.M_pos
theorem xs_31 (a : Nat) (ha : a < Dg.M) : bits .xor .u64 (a : Int) ((a : Int) / 2147483648) = ((a ^^^ (a >>> 31) : Nat) : Int) := by
  rw [← xor_u64 _ _ ha (Dg.shr_lt ha), ← shr_int]; rfl
theorem xs_30 (a : Nat) (ha : a < Dg.M) : bits .xor .u64 (a : Int) ((a : Int) / 1073741824) = ((a ^^^ (a >>> 30) : Nat) : Int) := by
  rw [← xor_u64 _ _ ha (Dg.shr_lt ha), ← shr_int]; rfl
theorem mul_any (x : Nat) (k : Int) (y : Nat) (hk : k = y) (hx : x < Dg.M) (hy : y < Dg.M) (w : World) :
    Calls Tryz.prog 81 #[.int .u64 x, .int .u64 k] w fun e w' => e = .returned (.tuple #[.int .u64 (mulH x y), .int .u64 (mulM x y)]) ∧ w = w' := by
  subst hk
  refine (Tryz.bits_Mul64 x y hx hy w).mono ?_
  rintro e w' ⟨rfl, rfl⟩
  exact ⟨rfl, rfl⟩
set_option maxHeartbeats 400000 in
theorem mix_any (k : Int) (x : Nat) (hk : k = x) (hx : x < Dg.M) (w : World) :
    Calls Tryz.prog 45 #[.int .u64 k] w fun e w' => e = .returned (.int .u64 (Dg.mix x)) ∧ w = w' := by
  subst hk
  go_enter Tryz.func45, Tryz.ntmps45
  go_wp2_with fail
  refine (mul_any _ _ 6364136223846793005 rfl hx (by unfold Dg.M; omega) _).mono ?_
  rintro e w' ⟨rfl, rfl⟩
  have h1 := mulM_lt x 6364136223846793005
  generalize hm : mulM x 6364136223846793005 = m at *
  have HM := hide hm; clear hm
  go_wp2_with fail
  rw [xs_31 m h1]
  refine (mul_any _ _ 3202034522624059733 rfl (Dg.xor_lt h1 (Dg.shr_lt h1)) (by unfold Dg.M; omega) _).mono ?_
  rintro e w' ⟨rfl, rfl⟩
  have h2 := mulM_lt (m ^^^ (m >>> 31)) 3202034522624059733
  generalize hm2 : mulM (m ^^^ (m >>> 31)) 3202034522624059733 = m2 at *
  have HM2 := hide hm2; clear hm2
  go_wp2
  go_ret
  refine ⟨ret_int ?_, rfl⟩
  rw [xs_30 m2 h2, ← HM2.out, ← HM.out]
  rfl
set_option maxHeartbeats 400000 in
theorem take_any (s : ByteArray) (hs : s.size ≤ 8) (x : Nat) (hx : x < Dg.M) (b : Nat) (w : World) (hb : b < w.heap.size) (hc : w.cell? ⟨b, 0, none⟩ = some (.int .u64 x)) (hf : w.frozen? ⟨b, 0, none⟩ = false) :
    Calls Tryz.prog 44 #[.string s, .pointer (some ⟨b, 0, none⟩)] w fun e w' => e = .returned (.tuple #[]) ∧ ∃ o, w' = (w.setCell ⟨b, 0, none⟩ (.int .u64 (Dg.mix (x ^^^ Dg.blk (Dg.L s))))).alloc o := by
  have hcp := run_copy8 (P := Tryz.prog) 56 9 3 5 59 s hs (by kernel_rfl) (by kernel_rfl) w
  unfold zero8 at hcp
  go_enter Tryz.func44, Tryz.ntmps44
  go_wp2_with fail
  clear hcp
  go_loop [4, 5, 9] (fun n _ i => ∃ k : Nat, k ≤ 8 ∧ i = .int .i64 k ∧ n = .int .u64 (Dg.blkTo s.data.toList k)) (fun _ _ i => 8 - (intOf i).toNat)
  case atStart => exact ⟨0, by omega, rfl, rfl⟩
  case round =>
    obtain ⟨k, hk, rfl, rfl⟩ := hrel
    by_cases hlt : k < 8
    · have hcell := pad8_get s k hlt
      have hb1 : Dg.blkTo s.data.toList k < 256 ^ 7 := Nat.lt_of_lt_of_le (Dg.blkTo_lt _ k) (Nat.pow_le_pow_right (by omega) (by omega))
      have hb2 := (s.data.toList.getD k 0).toNat_lt
      go_wp2
      go_round
      case rel =>
        refine ⟨k + 1, by omega, by go_num, ?_⟩
        have hst := blk_step (Dg.blkTo s.data.toList k) (s.data.toList.getD k 0) hb1
        rw [show s.data[k]?.getD 0 = s.data.toList.getD k 0 by simp [List.getD_eq_getElem?_getD], hst]
        rfl
      case measure => simp [intOf]; omega
    · obtain rfl : k = 8 := by omega
      have hbl := Dg.blk_lt s.data.toList
      go_wp2_with fail
      refine (mix_any _ (x ^^^ Dg.blk s.data.toList) (xor_u64 _ _ hx hbl) (Dg.xor_lt hx hbl) _).mono ?_
      rintro e w' ⟨rfl, rfl⟩
      go_wp2
      go_end0
      exact ⟨rfl, _, rfl⟩
end Go.Proofs.YtpldhempbdionaaGreatDoor
namespace Go.Proofs.YtpldhempbdionaaGreatDoor
open Go Go.RowKit
def digV (k i : Nat) : Value := .int .u8 (if i < k then ((Dg.hexDigit i).toNat : Int) else 0)
def digCells (k : Nat) : Array Value := #[digV k 0, digV k 1, digV k 2, digV k 3, digV k 4, digV k 5, digV k 6, digV k 7, digV k 8, digV k 9, digV k 10, digV k 11, digV k 12, digV k 13, digV k 14, digV k 15]
theorem lt16 {k : Nat} (h : k < 16) : k = 0 ∨ k = 1 ∨ k = 2 ∨ k = 3 ∨ k = 4 ∨ k = 5 ∨ k = 6 ∨ k = 7 ∨ k = 8 ∨ k = 9 ∨ k = 10 ∨ k = 11 ∨ k = 12 ∨ k = 13 ∨ k = 14 ∨ k = 15 := by omega
theorem digCells_set (k : Nat) (hk : k < 16) (v : Value) (hv : v = .int .u8 ((Dg.hexDigit k).toNat : Int)) : (digCells k).setIfInBounds k v = digCells (k + 1) := by
  subst hv
  rcases lt16 hk with rfl | rfl | rfl | rfl | rfl | rfl | rfl | rfl | rfl | rfl | rfl | rfl | rfl | rfl | rfl | rfl <;> rfl
theorem digCells_size (k : Nat) : (digCells k).size = 16 := rfl
theorem digCells_get (k i : Nat) (hi : i < 16) : (digCells k)[i]? = some (digV k i) := by
  rcases lt16 hi with rfl | rfl | rfl | rfl | rfl | rfl | rfl | rfl | rfl | rfl | rfl | rfl | rfl | rfl | rfl | rfl <;> rfl
theorem digCells_one : (digCells 16).all (·.oneCell') = true := by
  simp [digCells, digV, Value.oneCell']
theorem arr16u : Tryz.prog.underlying 63 = some (.array 16 5) := by kernel_rfl
theorem arr16i : (Tryz.prog.info? 63).map (·.size) = some (digCells 16).size := by kernel_rfl
set_option maxHeartbeats 400000 in
theorem digits_any (w : World) :
    Calls Tryz.prog 46 #[] w fun e w' => e = .returned (.agg (digCells 16)) ∧ Below w.heap.size w w' := by
  go_enter Tryz.func46, Tryz.ntmps46
  go_wp2
  go_loopw [2, 3] (fun _ i wr => ∃ k : Nat, k ≤ 16 ∧ i = .int .i64 k ∧ wr = (w.alloc (.cells (digCells 0) 63)).alloc (.cells (digCells k) 63)) (fun _ i _ => 16 - (intOf i).toNat)
  case atStart => exact ⟨0, by omega, rfl, rfl⟩
  case round =>
    obtain ⟨k, hk, rfl, rfl⟩ := hrel
    by_cases hlt : k < 16
    · have hcell := digCells_get k k hlt
      have hsz := digCells_size k
      have hset := digCells_set k hlt
      unfold digV at hcell
      rw [if_neg (by omega)] at hcell
      have HS := hide hset; clear hset
      by_cases h10 : k < 10
      · have hd := hide (Dg.hexDigit_lo k h10)
        go_wp2
        go_roundw
        case rel => exact ⟨k + 1, by omega, by go_num, by rw [HS.out _ (by rw [hd.out])]⟩
        case measure => simp [intOf]; omega
      · have hd := hide (Dg.hexDigit_hi k h10 hlt)
        go_wp2
        go_roundw
        case rel => exact ⟨k + 1, by omega, by go_num, by rw [HS.out _ (by rw [hd.out])]⟩
        case measure => simp [intOf]; omega
    · obtain rfl : k = 16 := by omega
      have hg1 := heap_alloc2_new w (.cells (digCells 0) 63) (.cells (digCells 16) 63)
      have hg0 := heap_alloc2_old w (.cells (digCells 0) 63) (.cells (digCells 16) 63)
      have hg0' := setRow_heap _ w.heap.size (digCells 0) (digCells 16) 63 (0, 0) hg0
      go_wp2_with (first | (refine wpList_load_row rfl 63 (.tmp 1) rfl (w.heap.size + 1) rfl 63 (digCells 16) (0, 0) (.array 16 5) hg1 arr16u rfl arr16i ?_) | (refine wpList_store_row rfl 63 (.tmp 0) (.tmp 20) rfl w.heap.size (digCells 16) rfl rfl 63 (digCells 0) hg0 arr16i rfl digCells_one ?_))
      refine bodyPost_ret (results_cell_row (P := Tryz.prog) Tryz.results46 _ _ w.heap.size 63 (digCells 16) (0, 0) (.array 16 5) rfl hg0' arr16u rfl arr16i) rfl ⟨rfl, ?_⟩
      refine ⟨rfl, rfl, rfl, by simp; omega, fun j hj => ?_⟩
      rw [setRow_other _ _ _ _ (by omega)]
      exact (Below.heap_alloc _ _ _ (by simp; omega)).trans (Below.heap_alloc _ _ _ hj)
end Go.Proofs.YtpldhempbdionaaGreatDoor
namespace Go.Proofs.YtpldhempbdionaaGreatDoor
open Go Go.RowKit
def IV : Nat := 1442695040888963407
theorem iv_xor (n : Nat) (hn : n < Dg.M) : bits .xor .u64 (1442695040888963407 : Int) (n : Int) = ((IV ^^^ n : Nat) : Int) := xor_u64 IV n (by unfold IV Dg.M; omega) hn
structure SumRel (w : World) (s t : ByteArray) (st : Nat) (wr : World) : Prop where
  below : Below w.heap.size w wr
  blk : wr.heap[w.heap.size]? = some (.cells #[.int .u64 (st : Int)] 58 (0, 0))
  lt : st < Dg.M
  size : t.size ≤ s.size
  run : Dg.run ((Dg.L t).length / 8 + 1) st (Dg.L t) = Dg.state (Dg.L s)
def strLen : Value → Nat
  | .string s => s.size
  | _ => 0
theorem sumRel_start (w : World) (s : ByteArray) (hs : s.size ≤ 9223372036854775807) (x : Int) (hx : x = ((IV ^^^ s.size : Nat) : Int)) : SumRel w s s (IV ^^^ s.size) (w.alloc (.cells #[.int .u64 x] 58)) := by
  subst hx
  exact ⟨(Below.refl _ _).alloc (Nat.le_refl _) _, heap_alloc_new w _, Dg.xor_lt (by unfold IV Dg.M; omega) (by unfold Dg.M; omega), Nat.le_refl _, by rw [Dg.len_L]; unfold Dg.state; rw [Dg.len_L]; rfl⟩
theorem sumRel_lt {w : World} {s t : ByteArray} {st : Nat} {wr : World} (h : SumRel w s t st wr) : w.heap.size < wr.heap.size := lt_of_block h.blk
theorem sumRel_set {wr : World} {b st x : Nat} (h : wr.heap[b]? = some (.cells #[.int .u64 (st : Int)] 58 (0, 0))) (o : Obj) :
    ((wr.setCell ⟨b, 0, none⟩ (.int .u64 (x : Int))).alloc o).heap[b]? = some (.cells #[.int .u64 (x : Int)] 58 (0, 0)) := by
  rw [Below.heap_alloc _ _ _ (by have := lt_of_block h; simpa [World.setCell] using this)]
  exact one_setCell h
theorem sumRel_next {w : World} {s t : ByteArray} {st : Nat} {wr : World} (h : SumRel w s t st wr) (h8 : 8 ≤ t.size) (o : Obj) :
    SumRel w s (t.extract 8 t.size) (Dg.mix (st ^^^ Dg.blk (Dg.L (t.extract 0 8)))) ((wr.setCell ⟨w.heap.size, 0, none⟩ (.int .u64 (Dg.mix (st ^^^ Dg.blk (Dg.L (t.extract 0 8))) : Nat))).alloc o) := by
  have hl := Dg.len_L t
  have e1 : Dg.L (t.extract 8 t.size) = (Dg.L t).drop 8 := by rw [Dg.L_extract, List.take_of_length_le (by omega)]
  have e2 : Dg.blk (Dg.L (t.extract 0 8)) = Dg.blk (Dg.L t) := by rw [Dg.L_extract, List.drop_zero, Dg.blk_take]
  refine ⟨(h.below.setCell (Nat.le_refl _) _).alloc (by have := sumRel_lt h; simp [World.setCell]; omega) _, sumRel_set h.blk o, Dg.mix_lt _, ?_, ?_⟩
  · have := h.size
    rw [← Dg.len_L, e1, List.length_drop]; omega
  · rw [e1, e2, ← Dg.run_step _ _ (by omega)]
    exact h.run
theorem sumRel_last {w : World} {s t : ByteArray} {st : Nat} {wr : World} (h : SumRel w s t st wr) (h8 : ¬ 8 ≤ t.size) : Dg.mix (st ^^^ Dg.blk (Dg.L t)) = Dg.state (Dg.L s) := by
  rw [← h.run, Dg.len_L, show t.size / 8 = 0 by omega]
  rfl
def zero16 : Array Value := #[.int .u8 0, .int .u8 0, .int .u8 0, .int .u8 0, .int .u8 0, .int .u8 0, .int .u8 0, .int .u8 0, .int .u8 0, .int .u8 0, .int .u8 0, .int .u8 0, .int .u8 0, .int .u8 0, .int .u8 0, .int .u8 0]
theorem run_fill {P : Program} (w : World) (A C : Array Value) (T : TypeId) (hsz : A.size = C.size) (h1 : C.all (·.oneCell') = true) :
    (storeCells ⟨w.heap.size, 0, none⟩ C.toList).run P (w.alloc (.cells A T)) = .ok () (w.alloc (.cells C T)) := by
  have := run_storeCells_from (P := P) w.heap.size T C.toList 0 A (w.alloc (.cells A T)) (heap_alloc_new w _) (by simp; omega) (fun v hv => (Array.all_eq_true_iff_forall_mem.1 h1) v (by simpa using hv))
  rw [this]
  simp [setRow_new]
def outV (S k i : Nat) : Value := .int .u8 (if i < k then ((Dg.hexDigit (S / 16 ^ (15 - i) % 16)).toNat : Int) else 0)
def outCells (S k : Nat) : Array Value := #[outV S k 0, outV S k 1, outV S k 2, outV S k 3, outV S k 4, outV S k 5, outV S k 6, outV S k 7, outV S k 8, outV S k 9, outV S k 10, outV S k 11, outV S k 12, outV S k 13, outV S k 14, outV S k 15]
theorem outCells_size (S k : Nat) : (outCells S k).size = 16 := rfl
theorem outCells_set (S k : Nat) (hk : k < 16) : (outCells S k).setIfInBounds k (.int .u8 ((Dg.hexDigit (S / 16 ^ (15 - k) % 16)).toNat : Int)) = outCells S (k + 1) := by
  rcases lt16 hk with rfl | rfl | rfl | rfl | rfl | rfl | rfl | rfl | rfl | rfl | rfl | rfl | rfl | rfl | rfl | rfl <;> rfl
theorem outCells_get (S k i : Nat) (hi : i < 16) : (outCells S k)[i]? = some (outV S k i) := by
  rcases lt16 hi with rfl | rfl | rfl | rfl | rfl | rfl | rfl | rfl | rfl | rfl | rfl | rfl | rfl | rfl | rfl | rfl <;> rfl
theorem nib (S k : Nat) (hk : k < 16) (hS : S < Dg.M) : bits .and .u64 ((S : Int) / 2 ^ (60 - 4 * k)) 15 = ((S / 16 ^ (15 - k) % 16 : Nat) : Int) := by
  have e : (2 : Int) ^ (60 - 4 * k) = ((16 ^ (15 - k) : Nat) : Int) := by
    rw [show 60 - 4 * k = 4 * (15 - k) by omega, Int.pow_mul]
    exact (Int.natCast_pow 16 (15 - k)).symm
  have hlt : S / 16 ^ (15 - k) < 18446744073709551616 := Nat.lt_of_le_of_lt (Nat.div_le_self _ _) hS
  rw [e, ← Int.natCast_ediv]
  have := u64_and_nat (S / 16 ^ (15 - k)) 15 hlt (by omega)
  rw [show ((15 : Nat) : Int) = 15 from rfl] at this
  rw [this]
  congr 1
  exact Nat.and_two_pow_sub_one_eq_mod _ 4
theorem outCells_hex (S j : Nat) (hj : j < (Dg.hex S).length) : (outCells S 16)[j]? = some (.int .u8 (((Dg.hex S)[j]).toNat : Int)) := by
  have h16 : (Dg.hex S).length = 16 := Dg.hexTo_len S 16
  have h := Dg.hexTo_get S 16 j (by omega)
  have e : (Dg.hex S)[j] = Dg.hexDigit (S / 16 ^ (15 - j) % 16) := Option.some.inj ((List.getElem?_eq_getElem hj).symm.trans h)
  rw [e, outCells_get S 16 j (by omega)]
  unfold outV
  rw [if_pos (by omega)]
theorem run_out {P : Program} (w : World) (A : Array Value) (T : TypeId) (S : Nat) (src dst e : TypeId) (hs : P.underlying src = some (.slice e)) (he : P.underlying e = some (.int .u8)) (hd : P.underlying dst = some .string) :
    (convert src dst (.slice (some ⟨w.heap.size + 1, 0, none⟩) 16 16)).run P ((w.alloc (.cells A T)).alloc (.cells (outCells S 16) T)) = .ok (.string (Dg.B (Dg.hex S))) ((w.alloc (.cells A T)).alloc (.cells (outCells S 16) T)) := by
  have h16 : (Dg.hex S).length = 16 := Dg.hexTo_len S 16
  have := run_convert_bytes_back (P := P) ((w.alloc (.cells A T)).alloc (.cells (outCells S 16) T)) src dst e ⟨w.heap.size + 1, 0, none⟩ 16 (Dg.hex S) hs he hd (fun j hj => by
    have hadd : (⟨w.heap.size + 1, 0, none⟩ : Addr).add j = ⟨w.heap.size + 1, j, none⟩ := by unfold Addr.add; split <;> simp_all
    rw [hadd, cell_of_row _ _ _ _ _ _ (heap_alloc2_new w _ _), outCells_hex S j hj])
  rw [h16] at this
  exact this
set_option maxHeartbeats 1000000 in
theorem sum_any (s : ByteArray) (hs : s.size ≤ 9223372036854775807) (w : World) :
    Calls Tryz.prog 19 #[.string s] w fun e w' => e = .returned (.string (Dg.sumB s)) ∧ Below w.heap.size w w' := by
  have h0 := hide (iv_xor s.size (by unfold Dg.M; omega))
  go_enter Tryz.func19, Tryz.ntmps19
  go_wp2
  go_loopw [0] (fun v wr => ∃ (t : ByteArray) (st : Nat), v = .string t ∧ SumRel w s t st wr) (fun v _ => strLen v)
  case atStart => exact ⟨s, _, rfl, sumRel_start w s hs _ h0.out⟩
  case round =>
    obtain ⟨t, st, rfl, hrel⟩ := hrel
    have hz := hrel.size
    have hlt := sumRel_lt hrel
    by_cases h8 : 8 ≤ t.size
    · go_wp2_with fail
      refine (take_any (t.extract 0 8) (by rw [← Dg.len_L, Dg.L_extract]; simp only [List.drop_zero, List.length_take]; omega) st hrel.lt w.heap.size _ hlt (cell_of_one hrel.blk) (free_of_one hrel.blk)).mono ?_
      rintro e w' ⟨rfl, o, rfl⟩
      have hn := sumRel_next hrel h8 o
      go_wp2
      go_roundw
      case rel => exact ⟨_, _, rfl, hn⟩
      case measure => simp only [strLen]; rw [← Dg.len_L, Dg.L_extract, List.length_drop, List.length_take, Dg.len_L]; omega
    · go_wp2_with fail
      refine (take_any t (by omega) st hrel.lt w.heap.size _ hlt (cell_of_one hrel.blk) (free_of_one hrel.blk)).mono ?_
      rintro e w' ⟨rfl, o, rfl⟩
      obtain ⟨W, hW⟩ : ∃ W, W = (wr.setCell ⟨w.heap.size, 0, none⟩ (.int .u64 (Dg.mix (st ^^^ Dg.blk (Dg.L t)) : Nat))).alloc o := ⟨_, rfl⟩
      have hb1 : Below w.heap.size w W := by subst hW; exact (hrel.below.setCell (Nat.le_refl _) _).alloc (by simp [World.setCell]; omega) _
      have hk1 : W.heap[w.heap.size]? = some (.cells #[.int .u64 ((Dg.state (Dg.L s) : Nat) : Int)] 58 (0, 0)) := by
        subst hW; rw [← sumRel_last hrel h8]; exact sumRel_set hrel.blk o
      rw [← hW]
      clear hW hrel hlt hz h8
      have hst := Dg.state_lt (Dg.L s)
      generalize hS : Dg.state (Dg.L s) = S at *
      have HS := hide hS; clear hS
      go_wp2_with fail
      refine (digits_any _).mono ?_
      rintro e w2 ⟨rfl, hb2⟩
      have hb3 := hb1.trans (hb2.mono (by have := lt_of_block hk1; omega))
      have hk3 : w2.heap[w.heap.size]? = some (.cells #[.int .u64 (S : Int)] 58 (0, 0)) := by rw [hb2.block _ (lt_of_block hk1)]; exact hk1
      have hlt3 := lt_of_block hk3
      clear hk1 hb1 hb2
      have hfill := run_fill (P := Tryz.prog) w2 zero16 (digCells 16) 63 rfl digCells_one
      unfold zero16 at hfill
      go_wp2
      clear hfill
      go_loopw [7, 26] (fun _ i wr => ∃ k : Nat, k ≤ 16 ∧ i = .int .i64 k ∧ wr = (w2.alloc (.cells (digCells 16) 63)).alloc (.cells (outCells S k) 63)) (fun _ i _ => 16 - (intOf i).toNat)
      case atStart => exact ⟨0, by omega, rfl, rfl⟩
      case round =>
        obtain ⟨k, hk, rfl, rfl⟩ := hrel
        have hc3 := cell_of_one hk3
        by_cases hlt : k < 16
        · have hcell := outCells_get S k k hlt
          have hsz := outCells_size S k
          unfold outV at hcell
          rw [if_neg (by omega)] at hcell
          have hset := outCells_set S k hlt
          have hidx := nib S k hlt hst
          have hd : S / 16 ^ (15 - k) % 16 < 16 := Nat.mod_lt _ (by omega)
          generalize S / 16 ^ (15 - k) % 16 = d at *
          have hdc := digCells_get 16 d hd
          unfold digV at hdc
          rw [if_pos hd] at hdc
          have hdc' : ∀ h : d < (digCells 16).size, (digCells 16)[d] = .int .u8 ((Dg.hexDigit d).toNat : Int) := fun h => Option.some.inj ((Array.getElem?_eq_getElem h).symm.trans hdc)
          have HSET := hide hset; clear hset
          go_wp2
          go_roundw
          case rel => exact ⟨k + 1, by omega, by go_num, by rw [HSET.out]⟩
          case measure => simp [intOf]; omega
        · obtain rfl : k = 16 := by omega
          have hconv := run_out (P := Tryz.prog) w2 (digCells 16) 63 S 56 9 5 (by kernel_rfl) (by kernel_rfl) (by kernel_rfl)
          generalize outCells S 16 = OC at *
          go_wp2
          go_ret
          refine ⟨ret_str ?_, (hb3.alloc (by omega) _).alloc (by simp; omega) _⟩
          rw [← HS.out]; rfl
end Go.Proofs.YtpldhempbdionaaGreatDoor
namespace Go.Proofs.YtpldhempbdionaaGreatDoor
open Go Go.RowKit
theorem wrap_mul (a c : Nat) (C : Int) (hC : C = c) : IntKind.u64.wrap ((a : Int) * C) = ((mulM a c : Nat) : Int) := by
  subst hC
  rw [IntKind.wrap_u64]
  unfold mulM Dg.M
  omega
set_option maxHeartbeats 400000 in
theorem rmix_any (k : Int) (x : Nat) (hk : k = x) (_hx : x < Dg.M) (w : World) :
    Calls Tryz.prog 111 #[.int .u64 k] w fun e w' => e = .returned (.int .u64 (Dg.mix x)) ∧ w = w' := by
  subst hk
  go_enter Tryz.func111, Tryz.ntmps111
  go_wp2
  go_ret
  refine ⟨ret_int ?_, rfl⟩
  rw [wrap_mul x 6364136223846793005 6364136223846793005 rfl, xs_31 _ (mulM_lt _ _), wrap_mul _ 3202034522624059733 3202034522624059733 rfl, xs_30 _ (mulM_lt _ _)]
  rfl
theorem toList_L (s : ByteArray) : s.toList = Dg.L s := ByteArray.toList_eq s
theorem hexes_all : ∀ n, n < 256 → Dg.hexes.contains (UInt8.ofNat n) = Dg.isDig (UInt8.ofNat n) := by decide +kernel
theorem hexes_isDig (c : UInt8) : Dg.hexes.contains c = Dg.isDig c := by
  have := hexes_all c.toNat c.toNat_lt
  rwa [UInt8.ofNat_toNat] at this
theorem dropWhile_nil {p : UInt8 → Bool} (l : List UInt8) : l.dropWhile p = [] ↔ ∀ x ∈ l, p x = true := by
  induction l with
  | nil => simp
  | cons a r ih =>
    rw [List.dropWhile_cons]
    by_cases h : p a = true
    · rw [if_pos h, ih]; simp [h]
    · rw [if_neg h]; simp [h]
theorem trim_empty (l : List UInt8) : (Lib.trimS l Dg.hexes).isEmpty = l.all Dg.isDig := by
  have hp : (fun c => Dg.hexes.contains c) = Dg.isDig := funext hexes_isDig
  unfold Lib.trimS Lib.trimLeftS Lib.trimRightS
  rw [show (fun x => Dg.hexes.contains x) = Dg.isDig from hp]
  rw [Bool.eq_iff_iff, List.isEmpty_iff, dropWhile_nil, List.all_eq_true]
  constructor
  · intro h x hx
    have hx' : x ∈ l.reverse.takeWhile Dg.isDig ++ l.reverse.dropWhile Dg.isDig := by rw [List.takeWhile_append_dropWhile]; exact List.mem_reverse.2 hx
    rcases List.mem_append.1 hx' with h1 | h1
    · have := List.all_takeWhile (p := Dg.isDig) (l := l.reverse)
      exact List.all_eq_true.1 this x h1
    · exact h x (List.mem_reverse.2 h1)
  · intro h x hx
    have h1 := List.mem_reverse.1 hx
    have h2 : x ∈ l.reverse := List.Sublist.mem h1 (List.dropWhile_sublist _)
    exact h x (List.mem_reverse.1 h2)
theorem trim_any (s : ByteArray) (hs : s.size ≤ 9223372036854775807) (w : World) :
    Calls Tryz.prog 42 #[.string s, .string ⟨#[48, 49, 50, 51, 52, 53, 54, 55, 56, 57, 97, 98, 99, 100, 101, 102]⟩] w fun e w' => e = .returned (.string (Dg.B (Lib.trimS (Dg.L s) Dg.hexes))) ∧ Below w.heap.size w w' :=
  Any.strings_Trim_laid Tryz.lays160 (by kernel_rfl) s ⟨#[48, 49, 50, 51, 52, 53, 54, 55, 56, 57, 97, 98, 99, 100, 101, 102]⟩ w hs (by decide) (ascii_of_all (by decide))
set_option maxHeartbeats 400000 in
theorem is_any (s : ByteArray) (_hs : s.size ≤ 4611686018427387904) (w : World) :
    Calls Tryz.prog 15 #[.string s] w fun e w' => e = .returned (.bool (Dg.isB s)) ∧ Below w.heap.size w w' := by
  by_cases h16 : s.size = 16
  · go_enter Tryz.func15, Tryz.ntmps15
    go_wp2_with fail
    refine (trim_any s (by omega) _).mono ?_
    rintro e w' ⟨rfl, hb⟩
    generalize hT : Dg.B (Lib.trimS (Dg.L s) Dg.hexes) = T at *
    have HT := hide hT; clear hT
    go_wp2
    go_ret
    refine ⟨ret_bool ?_, hb⟩
    rw [toList_L, ← HT.out, Dg.L_B, trim_empty, Dg.isB, Dg.is, Dg.len_L, h16]
    rfl
  · go_enter Tryz.func15, Tryz.ntmps15
    go_wp2
    go_ret
    refine ⟨ret_bool ?_, Below.refl _ _⟩
    have e : (s.size == 16) = false := by simpa using h16
    rw [Dg.isB, Dg.is, Dg.len_L, e, Bool.false_and]
theorem getB (s : ByteArray) (k : Nat) (h : k < s.size) : s[k] = (Dg.L s)[k]'(by rw [Dg.len_L]; exact h) := rfl
end Go.Proofs.YtpldhempbdionaaGreatDoor
namespace Go.Proofs.YtpldhempbdionaaGreatDoor
open Go Go.RowKit
theorem blkTo_ext (l : List UInt8) (a j : Nat) : Dg.blkTo (l.drop a) (j + 1) = Dg.blkTo (l.drop a) j * 256 + (l.getD (a + j) 0).toNat := by
  rw [Dg.blkTo, List.getD_eq_getElem?_getD, List.getD_eq_getElem?_getD, List.getElem?_drop]
theorem run_drop (k s : Nat) (l : List UInt8) (n : Nat) (h : 0 < k) : Dg.run k s (l.drop n) = Dg.run (k - 1) (Dg.mix (s ^^^ Dg.blk (l.drop n))) (l.drop (n + 8)) := by
  obtain ⟨k, rfl⟩ : ∃ j, k = j + 1 := ⟨k - 1, by omega⟩
  rw [Dg.run, List.drop_drop]
  rfl
theorem getD_B (s : ByteArray) (i : Nat) (h : i < s.size) : (Dg.L s).getD i 0 = s[i] := by
  rw [getB, List.getD_eq_getElem?_getD, List.getElem?_eq_getElem (by rw [Dg.len_L]; exact h)]; rfl
theorem getD_out (s : ByteArray) (i : Nat) (h : ¬ i < s.size) : (Dg.L s).getD i 0 = 0 := by
  rw [List.getD_eq_getElem?_getD, List.getElem?_eq_none (by rw [Dg.len_L]; omega)]; rfl
theorem mul_add_byte (n : Nat) (c : UInt8) (hn : n < 256 ^ 7) : IntKind.u64.wrap ((n : Int) * 256 + IntKind.u64.wrap (c.toNat : Int)) = ((n * 256 + c.toNat : Nat) : Int) := by
  have hc := c.toNat_lt
  rw [IntKind.wrap_u64, IntKind.wrap_u64]
  omega
theorem mul_out (n : Nat) : (n : Int) * 256 = ((n * 256 + (0 : UInt8).toNat : Nat) : Int) := by
  rw [show (0 : UInt8).toNat = 0 from rfl]
  omega
def hexTail (S m : Nat) : ByteArray := Dg.B ((Dg.hex S).drop (16 - m))
theorem hex_len (S : Nat) : (Dg.hex S).length = 16 := Dg.hexTo_len S 16
theorem hexTail_zero (S : Nat) : hexTail S 0 = ⟨#[]⟩ := by
  unfold hexTail Dg.B
  rw [List.drop_of_length_le (by rw [hex_len]; omega)]
theorem hexTail_all (S : Nat) : hexTail S 16 = Dg.B (Dg.hex S) := rfl
theorem hexTail_size (S m : Nat) (_h : m ≤ 16) : (hexTail S m).size ≤ 16 := by
  unfold hexTail
  rw [Dg.size_B, List.length_drop, hex_len]; omega
theorem div_succ (S m : Nat) : S / 16 ^ (m + 1) = S / 16 ^ m / 16 := by rw [Nat.pow_succ, Nat.div_div_eq_div_mul]
theorem hexTail_succ (S m : Nat) (h : m < 16) : hexTail S (m + 1) = Dg.B [Dg.hexDigit (S / 16 ^ m % 16)] ++ hexTail S m := by
  apply Dg.L_inj
  have hl : 16 - (m + 1) < (Dg.hex S).length := by rw [hex_len]; omega
  have e : (Dg.hex S)[16 - (m + 1)] = Dg.hexDigit (S / 16 ^ m % 16) := by
    have := Dg.hexTo_get S 16 (16 - (m + 1)) (by omega)
    rw [show 15 - (16 - (m + 1)) = m by omega] at this
    exact Option.some.inj ((List.getElem?_eq_getElem hl).symm.trans this)
  unfold hexTail
  rw [Dg.L_B, List.drop_eq_getElem_cons hl, e, show 16 - (m + 1) + 1 = 16 - m by omega]
  simp [Dg.L, Dg.B, ByteArray.data_append]
theorem hexConst (d : Nat) (h : d < 16) : ByteArray.extract ⟨#[48, 49, 50, 51, 52, 53, 54, 55, 56, 57, 97, 98, 99, 100, 101, 102]⟩ d (d + 1) = Dg.B [Dg.hexDigit d] := by
  apply Dg.L_inj
  rw [Dg.L_extract, Dg.L_B]
  rcases lt16 h with rfl | rfl | rfl | rfl | rfl | rfl | rfl | rfl | rfl | rfl | rfl | rfl | rfl | rfl | rfl | rfl <;> rfl
set_option maxHeartbeats 1000000 in
theorem rsum_any (s : ByteArray) (hs : s.size ≤ 4611686018427387904) (w : World) :
    Calls Tryz.prog 92 #[.string s] w fun e w' => e = .returned (.string (Dg.sumB s)) ∧ w = w' := by
  have h0 := hide (iv_xor s.size (by unfold Dg.M; omega))
  go_enter Tryz.func92, Tryz.ntmps92
  go_wp2
  go_loop [3, 4, 5, 6] (fun a f _ _ => ∃ k st : Nat, 8 * k ≤ s.size + 8 ∧ st < Dg.M ∧ f = .int .i64 ((8 * k : Nat) : Int) ∧ a = .int .u64 (st : Int) ∧ Hid (Dg.run (s.size / 8 + 1 - k) st ((Dg.L s).drop (8 * k)) = Dg.state (Dg.L s))) (fun _ f _ _ => s.size + 8 - (intOf f).toNat)
  case atStart => exact ⟨0, IV ^^^ s.size, by omega, Dg.xor_lt (by unfold IV Dg.M; omega) (by unfold Dg.M; omega), rfl, by rw [h0.out], by unfold Hid Dg.state; rw [Dg.len_L]; rfl⟩
  case round =>
    obtain ⟨k, st, hk, hst, rfl, rfl, HR⟩ := hrel
    by_cases hle : 8 * k ≤ s.size
    · go_wp2_with fail
      go_loop [5, 6] (fun b i => ∃ j : Nat, j ≤ 8 ∧ i = .int .i64 ((8 * k + j : Nat) : Int) ∧ b = .int .u64 (Dg.blkTo ((Dg.L s).drop (8 * k)) j : Int)) (fun _ i => 8 * k + 8 - (intOf i).toNat)
      case atStart => exact ⟨0, by omega, by go_num, rfl⟩
      case round =>
        obtain ⟨j, hj, rfl, rfl⟩ := hrel
        by_cases hlt : j < 8
        · have hb := Dg.blkTo_lt ((Dg.L s).drop (8 * k)) j
          have hb2 : 256 ^ j ≤ 256 ^ 7 := Nat.pow_le_pow_right (by omega) (by omega)
          have hbl : Dg.blkTo ((Dg.L s).drop (8 * k)) j < 256 ^ 7 := by omega
          clear hb hb2
          have hext := hide (blkTo_ext (Dg.L s) (8 * k) j)
          generalize Dg.blkTo ((Dg.L s).drop (8 * k)) j = B at *
          by_cases hin : 8 * k + j < s.size
          · have hg := hide (getD_B s _ hin)
            go_wp2
            go_round
            case rel => exact ⟨j + 1, by omega, by go_num, by rw [hext.out, hg.out, mul_add_byte _ _ hbl]⟩
            case measure => simp [intOf]; omega
          · have hg := hide (getD_out s _ hin)
            go_wp2
            go_round
            case rel => exact ⟨j + 1, by omega, by go_num, by rw [hext.out, hg.out, mul_out]⟩
            case measure => simp [intOf]; omega
        · obtain rfl : j = 8 := by omega
          have hbl := Dg.blk_lt ((Dg.L s).drop (8 * k))
          go_wp2_with fail
          refine (rmix_any _ (st ^^^ Dg.blk ((Dg.L s).drop (8 * k))) (xor_u64 _ _ hst hbl) (Dg.xor_lt hst hbl) _).mono ?_
          rintro e w' ⟨rfl, rfl⟩
          have hR2 : Hid (Dg.run (s.size / 8 + 1 - (k + 1)) (Dg.mix (st ^^^ Dg.blk ((Dg.L s).drop (8 * k)))) ((Dg.L s).drop (8 * (k + 1))) = Dg.state (Dg.L s)) := by
            unfold Hid
            rw [← HR.out, run_drop (s.size / 8 + 1 - k) st (Dg.L s) (8 * k) (by omega)]
            rfl
          have hm := Dg.mix_lt (st ^^^ Dg.blk ((Dg.L s).drop (8 * k)))
          generalize Dg.mix (st ^^^ Dg.blk ((Dg.L s).drop (8 * k))) = st' at *
          go_wp2
          go_round
          case rel => exact ⟨k + 1, st', by omega, hm, by go_num, rfl, hR2⟩
          case measure => simp [intOf]; omega
    · have HS : Hid (st = Dg.state (Dg.L s)) := by
        have := HR.out
        rw [show s.size / 8 + 1 - k = 0 by omega] at this
        exact this
      clear HR
      go_wp2_with fail
      go_loop [3, 7, 8] (fun a v i => ∃ m : Nat, m ≤ 16 ∧ i = .int .i64 m ∧ a = .int .u64 ((st / 16 ^ m : Nat) : Int) ∧ v = .string (hexTail st m)) (fun _ _ i => 16 - (intOf i).toNat)
      case atStart => exact ⟨0, by omega, rfl, by rw [Nat.pow_zero, Nat.div_one], (congrArg Value.string (hexTail_zero st)).symm⟩
      case round =>
        obtain ⟨m, hm, rfl, rfl, rfl⟩ := hrel
        by_cases hlt : m < 16
        · have hq : st / 16 ^ m < Dg.M := Nat.lt_of_le_of_lt (Nat.div_le_self _ _) hst
          have hnext := hide (hexTail_succ st m hlt)
          have hdiv := hide (div_succ st m)
          have hts := hexTail_size st m hm
          generalize hexTail st m = T at *
          generalize st / 16 ^ m = q at *
          unfold Dg.M at hq
          go_wp2
          go_round
          case rel => exact ⟨m + 1, by omega, by go_num, by rw [hdiv.out]; rfl, by rw [hnext.out, hexConst _ (Nat.mod_lt _ (by omega))]⟩
          case measure => simp [intOf]; omega
        · obtain rfl : m = 16 := by omega
          go_wp2
          go_ret
          exact ⟨ret_str (by rw [hexTail_all, HS.out]; rfl), rfl⟩
def DecRel (n q : Nat) (T : List UInt8) : Prop := (q = 0 → T = Lib.decDigits n) ∧ (0 < q → Lib.decDigits q ++ T = Lib.decDigits n)
theorem decRel_start (n : Nat) : DecRel n (n / 10) [UInt8.ofNat (48 + n % 10)] := by
  constructor
  · intro h
    have h1 : n < 10 := by omega
    rw [Lib.decDigits, dif_pos h1, Nat.mod_eq_of_lt h1]
  · intro h
    conv => rhs; rw [Lib.decDigits]
    rw [dif_neg (by omega)]
theorem decRel_next (n q : Nat) (T : List UInt8) (hq : 0 < q) (h : DecRel n q T) : DecRel n (q / 10) (UInt8.ofNat (48 + q % 10) :: T) := by
  have h2 := h.2 hq
  rw [Lib.decDigits] at h2
  constructor
  · intro h3
    have h1 : q < 10 := by omega
    rw [dif_pos h1] at h2
    rw [← h2, Nat.mod_eq_of_lt h1]; rfl
  · intro h3
    rw [dif_neg (by omega)] at h2
    rw [← h2, List.append_assoc]; rfl
theorem decDigits_len (n : Nat) (h : n < Dg.M) : (Lib.decDigits n).length ≤ 20 := by
  rw [← decF_eq 20 n (by unfold Dg.M at h; omega) (by omega)]
  exact Dg.decF_len 20 n
theorem decRel_len (n q : Nat) (T : List UInt8) (hn : n < Dg.M) (h : DecRel n q T) : T.length ≤ 20 := by
  have hl := decDigits_len n hn
  rcases Nat.eq_zero_or_pos q with h0 | h0
  · rw [h.1 h0]; exact hl
  · rw [← h.2 h0, List.length_append] at hl; omega
theorem lt10 {k : Nat} (h : k < 10) : k = 0 ∨ k = 1 ∨ k = 2 ∨ k = 3 ∨ k = 4 ∨ k = 5 ∨ k = 6 ∨ k = 7 ∨ k = 8 ∨ k = 9 := by omega
theorem decConst (d : Nat) (h : d < 10) : ByteArray.extract ⟨#[48, 49, 50, 51, 52, 53, 54, 55, 56, 57]⟩ d (d + 1) = Dg.B [UInt8.ofNat (48 + d)] := by
  apply Dg.L_inj
  rw [Dg.L_extract, Dg.L_B]
  rcases lt10 h with rfl | rfl | rfl | rfl | rfl | rfl | rfl | rfl | rfl | rfl <;> rfl
theorem B_cons (c : UInt8) (T : List UInt8) : Dg.B [c] ++ Dg.B T = Dg.B (c :: T) := by
  apply Dg.L_inj
  simp [Dg.L, Dg.B, ByteArray.data_append]
set_option maxHeartbeats 400000 in
theorem rdigits_any (k : Int) (n : Nat) (hk : k = n) (hn : n < Dg.M) (w : World) :
    Calls Tryz.prog 80 #[.int .u64 k] w fun e w' => e = .returned (.string (decB n)) ∧ w = w' := by
  subst hk
  have hn' : n < 18446744073709551616 := hn
  have hc := hide (decConst (n % 10) (Nat.mod_lt _ (by omega)))
  go_enter Tryz.func80, Tryz.ntmps80
  go_wp2
  go_loop [0, 3] (fun a v => ∃ (q : Nat) (T : List UInt8), q < 18446744073709551616 ∧ a = .int .u64 (q : Int) ∧ v = .string (Dg.B T) ∧ Hid (DecRel n q T)) (fun a _ => (intOf a).toNat)
  case atStart => exact ⟨n / 10, _, by omega, rfl, by rw [hc.out], decRel_start n⟩
  case round =>
    obtain ⟨q, T, hq, rfl, rfl, HR⟩ := hrel
    by_cases h0 : 0 < q
    · have hc2 := hide (decConst (q % 10) (Nat.mod_lt _ (by omega)))
      have hT : (Dg.B T).size ≤ 20 := by rw [Dg.size_B]; exact decRel_len n q T hn HR.out
      have hB := hide (B_cons (UInt8.ofNat (48 + q % 10)) T)
      have hnx := hide (decRel_next n q T h0 HR.out)
      generalize Dg.B T = TT at *
      go_wp2
      go_round
      case rel => exact ⟨q / 10, _, by omega, rfl, by rw [hc2.out, hB.out], hnx.out⟩
      case measure => simp [intOf]; omega
    · obtain rfl : q = 0 := by omega
      go_wp2
      go_ret
      exact ⟨ret_str (by rw [HR.out.1 rfl]; rfl), rfl⟩
set_option maxHeartbeats 400000 in
theorem decimal_any (n : Nat) (hn : n ≤ 9223372036854775807) (w : World) :
    Calls Tryz.prog 43 #[.int .i64 n] w fun e w' => e = .returned (.string (decB n)) ∧ w = w' := by
  go_enter Tryz.func43, Tryz.ntmps43
  go_wp2_with fail
  refine (rdigits_any _ n rfl (by unfold Dg.M; omega) _).mono ?_
  rintro e w' ⟨rfl, rfl⟩
  go_wp2
  go_ret
  exact ⟨rfl, rfl⟩
end Go.Proofs.YtpldhempbdionaaGreatDoor
/- Appends to slices that the call itself made: bytes and one-cell elements. No conditions. -/
namespace Go.Proofs.YtpldhempbdionaaGreatDoor
open Go Go.RowKit
/-- A byte slice of the call's own that holds the bytes l. -/
def OwnB (w : World) (B : Nat) (v : Value) (l : List UInt8) : Prop := w.ownsRow B 5 1 v l.length (Lib.byteCells l)
/-- A slice of the call's own whose elements of type e, one cell each, are xs. -/
def OwnV (w : World) (B : Nat) (e : TypeId) (v : Value) (xs : List Value) : Prop := w.ownsRow B e 1 v xs.length xs
theorem OwnV.nil (w : World) (B : Nat) (e : TypeId) : OwnV w B e (.slice none 0 0) [] := World.ownsRow_nil w B e 1
theorem OwnV.below {w w' : World} {B : Nat} {e : TypeId} {v : Value} {xs : List Value} (h : OwnV w B e v xs) (hb : Below w.heap.size w w') : OwnV w' B e v xs := own_below h hb
theorem OwnB.below {w w' : World} {B : Nat} {v : Value} {l : List UInt8} (h : OwnB w B v l) (hb : Below w.heap.size w w') : OwnB w' B v l := own_below h hb
theorem OwnB.form {w : World} {B : Nat} {v : Value} {l : List UInt8} (h : OwnB w B v l) : ∃ A c, v = .slice A l.length c := by
  rcases h.2 with ⟨rfl, h0⟩ | ⟨g, cap, cur, rfl, _⟩
  · exact ⟨none, 0, by rw [h0]⟩
  · exact ⟨_, _, rfl⟩
theorem OwnV.form {w : World} {B : Nat} {e : TypeId} {v : Value} {xs : List Value} (h : OwnV w B e v xs) : ∃ A c, v = .slice A xs.length c := by
  rcases h.2 with ⟨rfl, h0⟩ | ⟨g, cap, cur, rfl, _⟩
  · exact ⟨none, 0, by rw [h0]⟩
  · exact ⟨_, _, rfl⟩
theorem OwnV.alloc {w : World} {B : Nat} {e : TypeId} {v : Value} {xs : List Value} (h : OwnV w B e v xs) (o : Obj) : OwnV (w.alloc o) B e v xs := World.ownsRow.alloc h o
theorem OwnB.toV {w : World} {B : Nat} {v : Value} {l : List UInt8} (h : OwnB w B v l) : OwnV w B 5 v (Lib.byteCells l) := by
  unfold OwnV
  rw [Lib.byteCells_length]
  exact h
theorem OwnV.toB {w : World} {B : Nat} {v : Value} {l : List UInt8} (h : OwnV w B 5 v (Lib.byteCells l)) : OwnB w B v l := by
  unfold OwnV at h
  rw [Lib.byteCells_length] at h
  exact h
theorem byteInfo : (Tryz.prog.info? 5).map (fun i => (i.zero, i.size, i.bytes)) = some (some (.int .u8 0), 1, 1) := by kernel_rfl
theorem strInfo : (Tryz.prog.info? 9).map (fun i => (i.zero, i.size, i.bytes)) = some (some (.string ⟨#[]⟩), 1, 16) := by kernel_rfl
theorem below_own {w w' : World} {B : Nat} {e : TypeId} {v : Value} {n : Nat} {xs : List Value} (h : w.ownsRow B e 1 v n xs) (hg : w.grownBy w' v.ownBlock) (hB : B ≤ w.heap.size) : Below B w w' :=
  (Below.refl B w).grown hg hB fun k hk => (h.lt k hk).1
theorem step_str (w : World) {ops : Array Oper} {rest : List Oper} {o : Oper} {a : Act} {Q : Exit → Act → World → Prop} (hgd : o.guard = none) (sl x : Operand)
    (ho : o.op = .call { callee := .builtin .append, args := #[sl, x], argTypes := #[56, 9] })
    (B : Nat) (v : Value) (l : List UInt8) (hs : a.eval sl = v) (hown : OwnB w B v l) (s : ByteArray) (hx : a.eval x = .string s)
    (hlen : l.length + s.size ≤ 2199023255552) (hB : B ≤ w.heap.size)
    (h : ∀ v' w', OwnB w' B v' (l ++ Dg.L s) → Below B w w' → wpList Tryz.prog ops Q rest (a.put o.dst v') w') : wpList Tryz.prog ops Q (o :: rest) a w := by
  obtain ⟨i, h1, h2, h3, h4⟩ := info_parts byteInfo
  refine Lib.wpList_append_own_string w hgd sl x _ _ ho B 5 i Tryz.underlying56 Tryz.underlying9 h1 h2 h3 h4 v l.length _ hs hown s hx (by unfold maxLen; omega) (by omega) hB fun v' w' hown' hg _ => h v' w' ?_ (below_own hown hg hB)
  unfold OwnB
  rw [List.length_append, Lib.byteCells_append, Dg.len_L]
  exact hown'
theorem step_one (w : World) {ops : Array Oper} {rest : List Oper} {o : Oper} {a : Act} {Q : Exit → Act → World → Prop} (hgd : o.guard = none) (sl x : Operand) (t e : TypeId) (z : Value) (bytes : Nat)
    (ho : o.op = .call { callee := .builtin .append, args := #[sl, x], argTypes := #[t, t] })
    (ht : Tryz.prog.underlying t = some (.slice e)) (hi : (Tryz.prog.info? e).map (fun i => (i.zero, i.size, i.bytes)) = some (some z, 1, bytes)) (hz : z.cells.size = 1)
    (B : Nat) (v : Value) (xs : List Value) (hs : a.eval sl = v) (hown : OwnV w B e v xs) (ad : Addr) (c : Nat) (u : Value) (hx : a.eval x = .slice (some ad) 1 c) (hu : w.cell? ad = some u) (h1 : u.oneCell' = true)
    (hlen : xs.length < 1099511627776) (hby : bytes ≤ 64) (hB : B ≤ w.heap.size)
    (h : ∀ v' w', OwnV w' B e v' (xs ++ [u]) → Below B w w' → wpList Tryz.prog ops Q rest (a.put o.dst v') w') : wpList Tryz.prog ops Q (o :: rest) a w := by
  obtain ⟨i, h2, h3, h4, h5⟩ := info_parts hi
  refine wpList_append_own w hgd sl x t ho B e i z 1 bytes ht h2 h3 h4 h5 hz (by omega) v xs.length xs hs hown ad 1 c [u] hx rfl ?_ ?_ (by unfold maxLen; omega) ?_ hB fun v' w' hown' hg _ => h v' w' ?_ (below_own hown hg hB)
  · intro j u' hj
    rcases j with _ | j
    · obtain rfl : u = u' := by simpa using hj
      have : ad.add 0 = ad := by unfold Addr.add; simp
      rw [this]; exact hu
    · simp at hj
  · intro u' hu'
    obtain rfl : u' = u := by simpa using hu'
    exact h1
  · have h6 : (xs.length + 1) * bytes ≤ 1099511627776 * 64 := Nat.mul_le_mul (by omega) hby
    omega
  · unfold OwnV
    rw [List.length_append]
    exact hown'
/-- One byte, laid by a literal slice of one element, onto bytes of the call's own. -/
theorem step_byte (w0 : World) {ops : Array Oper} {rest : List Oper} {o : Oper} {a : Act} {Q : Exit → Act → World → Prop} (hgd : o.guard = none) (sl x : Operand)
    (ho : o.op = .call { callee := .builtin .append, args := #[sl, x], argTypes := #[56, 56] })
    (b : UInt8) (k : Int) (hk : k = b.toNat) (B : Nat) (v : Value) (l : List UInt8) (hs : a.eval sl = v) (hown : OwnB w0 B v l) (hx : a.eval x = .slice (some ⟨w0.heap.size, 0, none⟩) 1 1)
    (hlen : l.length < 1099511627776) (hB : B ≤ w0.heap.size)
    (h : ∀ v' w', OwnB w' B v' (l ++ [b]) → Below B w0 w' → wpList Tryz.prog ops Q rest (a.put o.dst v') w') : wpList Tryz.prog ops Q (o :: rest) a (w0.alloc (.cells #[.int .u8 k] 5)) := by
  subst hk
  refine step_one _ hgd sl x 56 5 _ _ ho Tryz.underlying56 byteInfo rfl B v _ hs (hown.toV.alloc _) ⟨w0.heap.size, 0, none⟩ 1 (.int .u8 (b.toNat : Int)) hx (by rw [cell_of_row _ _ 0 _ _ (0, 0) (heap_alloc_new _ _)]; rfl) rfl (by rw [Lib.byteCells_length]; exact hlen) (by omega) (by simp; omega) fun v' w' h1 h2 => h v' w' ?_ ?_
  · refine OwnV.toB ?_
    rw [Lib.byteCells_append]
    exact h1
  · exact ((Below.refl _ _).alloc hB _).trans h2
end Go.Proofs.YtpldhempbdionaaGreatDoor
namespace Go.Proofs.YtpldhempbdionaaGreatDoor
open Go Go.RowKit
theorem joinedL_le (l : List ByteArray) (k : Nat) : (Dg.joinedL (l.take k)).length ≤ (Dg.joinedL l).length := by
  unfold Dg.joinedL
  conv => rhs; rw [← List.take_append_drop k l, List.map_append, Dg.joined_append, List.length_append]
  omega
def joinB (s : ByteArray) : ByteArray := decB s.size ++ ⟨#[58]⟩ ++ s
theorem joinedL_add (l : List ByteArray) (k : Nat) (hk : k < l.length) (hj : (Dg.joinedL l).length ≤ 1099511627776) : Lib.byteCells (Dg.joinedL (l.take (k + 1))) = Lib.byteCells (Dg.joinedL (l.take k)) ++ Lib.strCells (joinB l[k]) ∧ (Lib.byteCells (Dg.joinedL (l.take k))).length + (joinB l[k]).size ≤ 1099511627776 := by
  have hsz : (Dg.L l[k]).length = l[k].size := Dg.len_L _
  have hle := joinedL_le l (k + 1)
  have e := Dg.joinedL_take l k hk
  have hlen : l[k].size ≤ 9223372036854775807 := by
    rw [e, List.length_append, List.length_append, List.length_cons] at hle
    omega
  have e2 : (joinB l[k]).data.toList = Dg.dec (Dg.L l[k]).length ++ 58 :: Dg.L l[k] := by
    rw [hsz, ← L_decB _ hlen]
    simp [joinB, Dg.L, ByteArray.data_append]
  refine ⟨?_, ?_⟩
  · rw [e, Lib.byteCells_append, Lib.strCells_eq, e2]
  · rw [Lib.byteCells_length, ← Dg.len_L (joinB l[k])]
    unfold Dg.L at *
    rw [e2]
    rw [e, List.length_append] at hle
    omega
set_option maxHeartbeats 1000000 in
theorem list_any (A : Option Addr) (c : Nat) (l : List ByteArray) (w : World) (he : Env w) (hl : l.length ≤ 1099511627776) (hj : (Dg.joinedL l).length ≤ 1099511627776) (hs : ∀ s ∈ l, s.size ≤ 1099511627776) (hr : Strs w w.heap.size A l) :
    Calls Tryz.prog 41 #[.slice A l.length c] w fun e w' => e = .returned (.string (Dg.listB l)) ∧ Below w.heap.size w w' := by
  go_enter Tryz.func41, Tryz.ntmps41
  go_wp2
  go_loopw [5, 8] (fun _ i wr => ∃ k : Nat, k ≤ l.length ∧ i = .int .i64 k ∧ Below w.heap.size w wr ∧ Lib.IsBuilder 69 5 w.heap.size w.heap.size (Lib.byteCells (Dg.joinedL (l.take k))) wr) (fun _ i _ => l.length - (intOf i).toNat)
  case atStart => exact ⟨0, by omega, rfl, (Below.refl _ _).alloc (Nat.le_refl _) _, builder_new _ _ _⟩
  case round =>
    obtain ⟨k, hk, rfl, hb, hB⟩ := hrel
    have hew := he.next hb
    by_cases hlt : k < l.length
    · obtain ⟨b, off, rfl, hbl, hcell⟩ := (hr.below hb).get hlt
      have hsz := hs l[k] (List.getElem_mem hlt)
      have hjk := hide (joinedL_add l k hlt hj)
      have hd := decB_size l[k].size (by omega)
      generalize hx : l[k] = x at *
      have HX := hide hx; clear hx
      go_wp2_with fail
      refine (itoa_any _ x.size rfl (by omega) _ hew).mono ?_
      rintro e w1 ⟨rfl, hb1⟩
      have hB1 := builder_below hB hb1
      have hb2 := hb.trans (hb1.mono hb.size)
      have hz := hb2.size
      go_wp2_with fail
      refine (Tryz.Builder_WriteString _ _ _ (joinB x) _ hB1 (by have := hjk.out.2; omega) hz).mono ?_
      rintro e w2 ⟨rfl, hB2, hb3⟩
      rw [← hjk.out.1] at hB2
      have hb4 := hb2.trans hb3
      go_wp2
      go_roundw
      case rel => exact ⟨k + 1, by omega, by go_num, hb4, Or.inr hB2⟩
      case measure => simp [intOf]; omega
    · obtain rfl : k = l.length := by omega
      rw [List.take_length] at hB
      go_wp2_with fail
      refine (Tryz.Builder_String_any _ _ _ _ hB hb.size).mono ?_
      rintro e w1 ⟨rfl, hb1⟩
      have hb2 := hb.trans hb1
      go_wp2_with fail
      refine (sum_any (Dg.B (Dg.joinedL l)) (by rw [Dg.size_B]; omega) _).mono ?_
      rintro e w2 ⟨rfl, hb3⟩
      have hb4 := hb2.trans (hb3.mono hb2.size)
      go_wp2
      go_ret
      exact ⟨rfl, hb4⟩
end Go.Proofs.YtpldhempbdionaaGreatDoor
namespace Go.Proofs.YtpldhempbdionaaGreatDoor
open Go Go.RowKit
theorem joinedL_step (l : List ByteArray) (k : Nat) (hk : k < l.length) (hs : l[k].size ≤ 9223372036854775807) : Dg.joinedL (l.take k) ++ Dg.L (decB l[k].size) ++ [58] ++ Dg.L l[k] = Dg.joinedL (l.take (k + 1)) := by
  rw [Dg.joinedL_take l k hk, L_decB _ hs, Dg.len_L]
  simp
theorem conv_own {P : Program} (src dst : TypeId) {w : World} {B : Nat} {A : Option Addr} {c : Nat} {l : List UInt8} (h : OwnB w B (.slice A l.length c) l) (hs : P.underlying src = some (.slice 5)) (hd : P.underlying dst = some .string) (he : P.underlying 5 = some (.int .u8) := by kernel_rfl) :
    (convert src dst (.slice A l.length c)).run P w = .ok (.string (Dg.B l)) w := by
  rcases h.2 with ⟨hv, h0⟩ | ⟨g, cap, cur, hv, _⟩
  · obtain rfl : l = [] := List.eq_nil_of_length_eq_zero h0
    injection hv with hA hn hc
    subst hA hc
    rw [run_convert_bytes_string (P := P) w src dst 5 none _ 0 hs he hd]
    simp [Conv.bytesToString]
    rfl
  · injection hv with hA hn hc
    subst hA hc
    have hcells := h.cells (g := g) rfl
    refine run_convert_bytes_back (P := P) w src dst 5 ⟨g, 0, none⟩ _ l hs he hd fun j hj => ?_
    refine hcells j _ ?_
    unfold Lib.byteCells
    rw [List.getElem?_map, List.getElem?_eq_getElem hj]
    rfl
set_option maxHeartbeats 1000000 in
theorem joined_any (A : Option Addr) (c : Nat) (l : List ByteArray) (w : World) (hl : l.length ≤ 1048576) (hj : (Dg.joinedL l).length ≤ 1099511627776) (hs : ∀ s ∈ l, s.size ≤ 1048576) (hr : Strs w w.heap.size A l) :
    Calls Tryz.prog 17 #[.slice A l.length c] w fun e w' => e = .returned (.string (Dg.B (Dg.joinedL l))) ∧ Below w.heap.size w w' := by
  obtain ⟨ib, ib1, ib2, ib3, ib4⟩ := info_parts byteInfo
  go_enter Tryz.func17, Tryz.ntmps17
  go_wp2
  go_loop [3, 4] (fun n i => ∃ k m : Nat, k ≤ l.length ∧ i = .int .i64 k ∧ n = .int .i64 m ∧ m ≤ k * 1048600) (fun _ i => l.length - (intOf i).toNat)
  case atStart => exact ⟨0, 0, by omega, rfl, rfl, by omega⟩
  case round =>
    obtain ⟨k, m, hk, rfl, rfl, hm⟩ := hrel
    by_cases hlt : k < l.length
    · obtain ⟨b, off, rfl, hbl, hcell⟩ := hr.get hlt
      have hsz := hs l[k] (List.getElem_mem hlt)
      generalize l[k] = x at *
      go_wp2
      go_round
      case rel => exact ⟨k + 1, m + (x.size + 21), by omega, by go_num, by go_num, by omega⟩
      case measure => simp [intOf]; omega
    · go_wp2_with (at_make; refine wpList_make_own _ rfl _ _ _ rfl w.heap.size 5 ib (.int .u8 0) 1 Tryz.underlying56 ib1 ib2 ib3 _ _ _ m rfl rfl rfl (by rw [ib4]; omega) (by unfold maxLen; omega) (Nat.le_refl _) ?_; intro w1 hown hg)
      have hb : Below w.heap.size w w1 := (Below.refl _ _).grown hg (Nat.le_refl _) (by simp)
      go_loopw [5, 6] (fun v i wr => ∃ k : Nat, k ≤ l.length ∧ i = .int .i64 k ∧ Below w.heap.size w wr ∧ OwnB wr w.heap.size v (Dg.joinedL (l.take k))) (fun _ i _ => l.length - (intOf i).toNat)
      case atStart => exact ⟨0, by omega, rfl, hb, hown⟩
      case round =>
        obtain ⟨k, hk, rfl, hb1, hO⟩ := hrel
        clear hown hg
        have hz1 := hb1.size
        by_cases hlt : k < l.length
        · obtain ⟨b, off, rfl, hbl, hcell⟩ := (hr.below hb1).get hlt
          have hsz := hs l[k] (List.getElem_mem hlt)
          have hst := hide (joinedL_step l k hlt (by omega))
          have hle := joinedL_le l (k + 1)
          rw [← hst.out, List.length_append, List.length_append, List.length_append, Dg.len_L, Dg.len_L] at hle
          have hle2 : (Dg.joinedL (l.take k)).length + (decB l[k].size).size + 1 + l[k].size ≤ 1099511627776 := Nat.le_trans hle hj
          clear hle
          have hd := decB_size l[k].size (by omega)
          generalize l[k] = x at *
          go_wp2_with fail
          refine (decimal_any _ (by omega) _).mono ?_
          rintro e w' ⟨rfl, rfl⟩
          go_wp2_with (first
            | (at_builtin; refine step_str _ rfl (.tmp 29) (.tmp 35) rfl w.heap.size _ _ rfl hO (decB x.size) rfl ?_ hz1 ?_; omega; intro v2 w2 hO2 hb2; have hcell2 : w2.cell? ⟨b, off + k, none⟩ = some (.string x) := (hb2.cell hbl).trans hcell; have hz2 := hb2.size)
            | (at_builtin; refine step_byte w2 rfl (.tmp 37) (.tmp 38) rfl 58 _ rfl w.heap.size _ _ rfl hO2 rfl ?_ ?_ ?_; rw [List.length_append, Dg.len_L]; omega; omega; intro v3 w3 hO3 hb3; have hcell3 : w3.cell? ⟨b, off + k, none⟩ = some (.string x) := (hb3.cell hbl).trans hcell2; have hz3 := hb3.size)
            | (at_builtin; refine step_str _ rfl (.tmp 40) (.tmp 44) rfl w.heap.size _ _ rfl hO3 x rfl ?_ ?_ ?_; rw [List.length_append, List.length_append, Dg.len_L]; simp; omega; omega; intro v4 w4 hO4 hb4; have hz4 := hb4.size)
            | fail)
          rw [hst.out] at hO4
          have hb5 := ((hb1.trans hb2).trans hb3).trans hb4
          go_roundw
          case rel => exact ⟨k + 1, by omega, by go_num, hb5, hO4⟩
          case measure => simp [intOf]; omega
        · obtain rfl : k = l.length := by omega
          rw [List.take_length] at hO
          obtain ⟨A', c', rfl⟩ := hO.form
          have hcv := conv_own (P := Tryz.prog) 56 9 hO (by kernel_rfl) (by kernel_rfl)
          go_wp2
          go_ret
          exact ⟨rfl, hb1⟩
set_option maxHeartbeats 400000 in
theorem rlist_any (A : Option Addr) (c : Nat) (l : List ByteArray) (w : World) (hl : l.length ≤ 1048576) (hj : (Dg.joinedL l).length ≤ 1099511627776) (hs : ∀ s ∈ l, s.size ≤ 1048576) (hr : Strs w w.heap.size A l) :
    Calls Tryz.prog 68 #[.slice A l.length c] w fun e w' => e = .returned (.string (Dg.listB l)) ∧ Below w.heap.size w w' := by
  go_enter Tryz.func68, Tryz.ntmps68
  go_wp2_with fail
  refine (joined_any A c l w hl hj hs hr).mono ?_
  rintro e w' ⟨rfl, hb⟩
  go_wp2_with fail
  refine (rsum_any _ (by rw [Dg.size_B]; omega) _).mono ?_
  rintro e w' ⟨rfl, rfl⟩
  go_wp2
  go_ret
  exact ⟨rfl, hb⟩
theorem below_drewN {B : Nat} {a w : World} (h : Below B a w) (n : Nat) : Below B a (w.drewN n) := ⟨h.os, h.tape, h.output, h.size, h.block⟩
theorem str_ne (a b : ByteArray) : (a.toList == b.toList) = decide (a = b) := by
  rw [toList_L, toList_L, Bool.eq_iff_iff, beq_iff_eq, decide_eq_true_iff]
  exact ⟨Dg.L_inj, fun h => by rw [h]⟩
set_option maxHeartbeats 400000 in
theorem same_any (A A' : Option Addr) (c c' : Nat) (l m : List ByteArray) (w : World) (hl : l.length ≤ 9223372036854775807) (_hl' : m.length ≤ 9223372036854775807) (hr : Strs w w.heap.size A l) (hr' : Strs w w.heap.size A' m) :
    Calls Tryz.prog 21 #[.slice A l.length c, .slice A' m.length c'] w fun e w' => e = .returned (.bool (Dg.same l m)) ∧ Below w.heap.size w w' := by
  by_cases hlen : l.length = m.length
  · have hne : ((l.length : Int) != (m.length : Int)) = false := by rw [bne_eq_false_iff_eq]; omega
    go_enter Tryz.func21, Tryz.ntmps21
    go_wp2
    go_loopw [5] (fun i wr => ∃ k : Nat, k ≤ l.length ∧ i = .int .i64 k ∧ Below w.heap.size w wr ∧ Hid (l.take k = m.take k)) (fun i _ => l.length - (intOf i).toNat)
    case atStart => exact ⟨0, by omega, rfl, Below.refl _ _, rfl⟩
    case round =>
      obtain ⟨k, hk, rfl, hb, hall⟩ := hrel
      by_cases hlt : k < l.length
      · have hlt' : k < m.length := by omega
        obtain ⟨b, off, rfl, hbl, hcell⟩ := (hr.below hb).get hlt
        obtain ⟨b', off', rfl, hbl', hcell'⟩ := (hr'.below hb).get hlt'
        have hts := hide (List.take_succ_eq_append_getElem hlt)
        have hts' := hide (List.take_succ_eq_append_getElem hlt')
        have hg := hide (List.getElem?_eq_getElem hlt)
        have hg' := hide (List.getElem?_eq_getElem hlt')
        generalize l[k] = x at *
        generalize m[k] = y at *
        by_cases hxy : x = y
        · have ht : (x.toList == y.toList) = true := by rw [str_ne]; exact decide_eq_true hxy
          have HXY := hide hxy; clear hxy
          go_wp2
          go_quiet (fail)
          go_wp2
          go_roundw
          case rel => exact ⟨k + 1, by omega, by go_num, below_drewN hb _, by unfold Hid; rw [hts.out, hts'.out, hall.out, HXY.out]⟩
          case measure => simp [intOf]; omega
        · have ht : (x.toList == y.toList) = false := by rw [str_ne]; exact decide_eq_false hxy
          have HXY := hide hxy; clear hxy
          go_wp2
          go_quiet (fail)
          go_wp2
          go_ret
          refine ⟨ret_bool (Dg.same_no _ _ ?_).symm, below_drewN hb _⟩
          intro h
          have h1 := hg.out
          rw [h, hg'.out] at h1
          exact HXY.out (Option.some.inj h1).symm
      · obtain rfl : k = l.length := by omega
        have h1 := hall.out
        rw [List.take_length, List.take_of_length_le (by omega)] at h1
        go_wp2
        go_ret
        exact ⟨ret_bool ((Dg.same_iff _ _).2 h1).symm, hb⟩
  · have hne : ((l.length : Int) != (m.length : Int)) = true := by rw [bne_iff_ne]; omega
    go_enter Tryz.func21, Tryz.ntmps21
    go_wp2
    go_ret
    exact ⟨ret_bool (Dg.same_no l m (fun h => hlen (by rw [h]))).symm, Below.refl _ _⟩
end Go.Proofs.YtpldhempbdionaaGreatDoor
namespace Go.Proofs.YtpldhempbdionaaGreatDoor
open Go Go.RowKit
/-! The contracts once more, with an open result and an open number of elements. -/
theorem is_of (s : ByteArray) (r : Bool) (hr : Dg.isB s = r) (hs : s.size ≤ 4611686018427387904) (w : World) :
    Calls Tryz.prog 15 #[.string s] w fun e w' => e = .returned (.bool r) ∧ Below w.heap.size w w' := by
  subst hr; exact is_any s hs w
theorem list_of (A : Option Addr) (_n : Int) (c k : Nat) (l : List ByteArray) (hk : l.length = k) (r : ByteArray) (hr : Dg.listB l = r) (w : World) (he : Env w) (hl : l.length ≤ 1099511627776) (hj : (Dg.joinedL l).length ≤ 1099511627776) (hs : ∀ s ∈ l, s.size ≤ 1099511627776) (hS : Strs w w.heap.size A l) :
    Calls Tryz.prog 41 #[.slice A k c] w fun e w' => e = .returned (.string r) ∧ Below w.heap.size w w' := by
  subst hr hk; exact list_any A c l w he hl hj hs hS
theorem Strs.new (w : World) (l : List ByteArray) (cs : Array Value) (T : TypeId) (h : cs.toList = l.map .string) : Strs (w.alloc (.cells cs T)) (w.alloc (.cells cs T)).heap.size (some ⟨w.heap.size, 0, none⟩) l :=
  ⟨fun _ => ⟨w.heap.size, 0, rfl, by simp, fun j s hj => by
    rw [cell_of_row _ _ _ _ _ (0, 0) (heap_alloc_new w _), Nat.zero_add, ← Array.getElem?_toList, h, List.getElem?_map, hj]
    rfl⟩⟩
theorem bnext {w w1 w2 : World} (h : Below w.heap.size w w1) (h' : Below w1.heap.size w1 w2) : Below w.heap.size w w2 := h.trans (h'.mono h.size)
theorem bnextA {w w1 w2 : World} {o : Obj} (h : Below w.heap.size w w1) (h' : Below (w1.alloc o).heap.size (w1.alloc o) w2) : Below w.heap.size w w2 := bnext (h.alloc h.size o) h'
theorem Env.alloc {w : World} (h : Env w) (o : Obj) : Env (w.alloc o) := h.next ((Below.refl _ _).alloc (Nat.le_refl _) _)
end Go.Proofs.YtpldhempbdionaaGreatDoor
/- The contracts of layer 1 with an open result, once more, and small forms. -/
namespace Go.Proofs.YtpldhempbdionaaGreatDoor
open Go Go.RowKit
theorem keepS {w w' : World} {A : Option Addr} {l : List ByteArray} (h : Strs w w.heap.size A l) (hb : Below w.heap.size w w') : Strs w' w'.heap.size A l := (h.below hb).more hb.size
theorem joined_of (A : Option Addr) (c k : Nat) (l : List ByteArray) (hk : l.length = k) (r : ByteArray) (hr : Dg.B (Dg.joinedL l) = r) (w : World) (hl : l.length ≤ 1048576) (hj : (Dg.joinedL l).length ≤ 1099511627776) (hs : ∀ s ∈ l, s.size ≤ 1048576) (hS : Strs w w.heap.size A l) :
    Calls Tryz.prog 17 #[.slice A k c] w fun e w' => e = .returned (.string r) ∧ Below w.heap.size w w' := by
  subst hr hk; exact joined_any A c l w hl hj hs hS
theorem same_of (A A' : Option Addr) (c c' : Nat) (l m : List ByteArray) (k k' : Nat) (hk : l.length = k) (hk' : m.length = k') (r : Bool) (hr : Dg.same l m = r) (w : World) (hl : k ≤ 9223372036854775807) (hl' : k' ≤ 9223372036854775807) (hS : Strs w w.heap.size A l) (hS' : Strs w w.heap.size A' m) :
    Calls Tryz.prog 21 #[.slice A k c, .slice A' k' c'] w fun e w' => e = .returned (.bool r) ∧ Below w.heap.size w w' := by
  subst hr hk hk'; exact same_any A A' c c' l m w hl hl' hS hS'
theorem mem_le {l : List ByteArray} {m n : Nat} (h : ∀ s ∈ l, s.size ≤ m) (hmn : m ≤ n) : ∀ s ∈ l, s.size ≤ n := fun s hs => Nat.le_trans (h s hs) hmn
theorem joinedL_small (l : List ByteArray) (h1 : l.length ≤ 8) (h : ∀ s ∈ l, s.size ≤ 1073741824) : (Dg.joinedL l).length ≤ 1099511627776 := by
  have h2 := Dg.joinedL_len_le l 1073741824 h
  have : l.length * (1073741824 + 21) ≤ 8 * (1073741824 + 21) := Nat.mul_le_mul_right _ h1
  omega
theorem joined_new (l : List ByteArray) (cs : Array Value) (T : TypeId) (k c : Nat) (hk : l.length = k) (h8 : l.length ≤ 8) (h : ∀ s ∈ l, s.size ≤ 1048576) (r : ByteArray) (hr : Dg.B (Dg.joinedL l) = r) (w : World) (hcs : cs.toList = l.map .string) (n : Nat) (hn : w.heap.size = n) :
    Calls Tryz.prog 17 #[.slice (some ⟨n, 0, none⟩) k c] (w.alloc (.cells cs T)) fun e w' => e = .returned (.string r) ∧ Below w.heap.size w w' := by
  subst hn
  exact (joined_of _ _ k l hk r hr _ (by omega) (joinedL_small _ h8 (mem_le h (by decide))) h (Strs.new _ _ _ _ hcs)).mono fun e w' ⟨h1, h2⟩ => ⟨h1, bnextA (Below.refl _ _) h2⟩
end Go.Proofs.YtpldhempbdionaaGreatDoor
/- half, node, Root of package tree and of the reference: one walk each. -/
namespace Go.Proofs.YtpldhempbdionaaGreatDoor
open Go Go.RowKit Go.Sort
/-- Where a slice's tail lies. -/
def offA (A : Option Addr) (k c : Nat) : Option Addr := if c = k then A else A.map (·.add k)
theorem Strs.take {w : World} {B : Nat} {A : Option Addr} {l : List ByteArray} (h : Strs w B A l) (k : Nat) : Strs w B A (l.take k) :=
  ⟨fun hl => by
    rw [List.length_take] at hl
    obtain ⟨b, off, e, hb, hc⟩ := h.at_ (by omega)
    refine ⟨b, off, e, hb, fun j s hj => hc j s ?_⟩
    rw [List.getElem?_take] at hj
    split at hj
    · exact hj
    · exact absurd hj (by simp)⟩
theorem addr_off (b off k : Nat) : Addr.add ⟨b, off, none⟩ k = ⟨b, off + k, none⟩ := by
  unfold Addr.add
  by_cases h : k = 0
  · rw [if_pos h, h, Nat.add_zero]
  · rw [if_neg h]
theorem Strs.drop {w : World} {B : Nat} {A : Option Addr} {l : List ByteArray} {c : Nat} (h : Strs w B A l) (hc : l.length ≤ c) (k : Nat) : Strs w B (offA A k c) (l.drop k) :=
  ⟨fun hl => by
    rw [List.length_drop] at hl
    obtain ⟨b, off, rfl, hb, hcell⟩ := h.at_ (by omega)
    refine ⟨b, off + k, ?_, hb, fun j s hj => ?_⟩
    · unfold offA
      rw [if_neg (by omega), Option.map_some, addr_off]
    · rw [List.getElem?_drop] at hj
      rw [Nat.add_assoc]
      exact hcell _ _ hj⟩
end Go.Proofs.YtpldhempbdionaaGreatDoor
/- Root of package tree and of the reference. -/
namespace Go.Proofs.YtpldhempbdionaaGreatDoor
open Go Go.RowKit Go.Sort
end Go.Proofs.YtpldhempbdionaaGreatDoor
/- length of the reference: how long a path is. -/
namespace Go.Proofs.YtpldhempbdionaaGreatDoor
open Go Go.RowKit Go.Sort
end Go.Proofs.YtpldhempbdionaaGreatDoor
/- up and digests of the reference. -/
namespace Go.Proofs.YtpldhempbdionaaGreatDoor
open Go Go.RowKit Go.Sort
end Go.Proofs.YtpldhempbdionaaGreatDoor
/- digests of the reference. -/
namespace Go.Proofs.YtpldhempbdionaaGreatDoor
open Go Go.RowKit Go.Sort
end Go.Proofs.YtpldhempbdionaaGreatDoor
/- Slices of strings that the call itself made: appended to, reversed, read. -/
namespace Go.Proofs.YtpldhempbdionaaGreatDoor
open Go Go.RowKit Go.Sort
def OwnS (w : World) (B : Nat) (v : Value) (l : List ByteArray) : Prop := OwnV w B 9 v (l.map .string)
theorem OwnS.nil (w : World) (B : Nat) : OwnS w B (.slice none 0 0) [] := OwnV.nil _ _ _
theorem OwnS.below {w w' : World} {B : Nat} {v : Value} {l : List ByteArray} (h : OwnS w B v l) (hb : Below w.heap.size w w') : OwnS w' B v l := OwnV.below h hb
theorem OwnS.cases {w : World} {B : Nat} {v : Value} {l : List ByteArray} (h : OwnS w B v l) : (v = .slice none 0 0 ∧ l = []) ∨
    ∃ g cap, v = .slice (some ⟨g, 0, none⟩) l.length cap ∧ B ≤ g ∧ g < w.heap.size ∧ l.length ≤ cap ∧ (∀ j (s : ByteArray), l[j]? = some s → w.cell? ⟨g, j, none⟩ = some (.string s)) ∧ (∀ j, w.frozen? ⟨g, j, none⟩ = false) := by
  obtain ⟨hl, h⟩ := h
  rw [List.length_map] at h hl
  rcases h with ⟨rfl, h0⟩ | ⟨g, cap, cur, rfl, hB, hg, hc, _, hsz, hx⟩
  · exact Or.inl ⟨rfl, List.length_eq_zero_iff.1 h0⟩
  · refine Or.inr ⟨g, cap, rfl, hB, lt_of_block hg, hc, fun j s hj => ?_, fun j => frozen_of_row _ _ _ _ _ hg⟩
    rw [cell_of_row _ _ _ _ _ (0, 0) hg, ← Array.getElem?_toList]
    have h1 : (cur.toList.take (l.length * 1))[j]? = some (.string s) := by rw [hx, List.getElem?_map, hj]; rfl
    rw [List.getElem?_take] at h1
    split at h1
    · exact h1
    · exact absurd h1 (by simp)
theorem OwnS.strs {w : World} {B : Nat} {v : Value} {l : List ByteArray} (h : OwnS w B v l) : ∃ A c, v = .slice A l.length c ∧ l.length ≤ c ∧ Strs w w.heap.size A l := by
  rcases h.cases with ⟨rfl, rfl⟩ | ⟨g, cap, rfl, _, hg, hc, hcell, _⟩
  · exact ⟨none, 0, rfl, by simp, Strs.nil _ _ _⟩
  · exact ⟨_, cap, rfl, hc, ⟨fun _ => ⟨g, 0, rfl, hg, fun j s hj => by rw [Nat.zero_add]; exact hcell j s hj⟩⟩⟩
end Go.Proofs.YtpldhempbdionaaGreatDoor
/- Path of package tree. -/
namespace Go.Proofs.YtpldhempbdionaaGreatDoor
open Go Go.RowKit Go.Sort
end Go.Proofs.YtpldhempbdionaaGreatDoor
/- Link of package tree. -/
namespace Go.Proofs.YtpldhempbdionaaGreatDoor
open Go Go.RowKit Go.Sort
end Go.Proofs.YtpldhempbdionaaGreatDoor
/- slices.Clone of strings; all are digests: slices.ContainsFunc at tree.digests, walked. -/
namespace Go.Proofs.YtpldhempbdionaaGreatDoor
open Go Go.RowKit Go.Sort
end Go.Proofs.YtpldhempbdionaaGreatDoor
/- pop, next and done of package tree: a proof that is used up from its end. -/
namespace Go.Proofs.YtpldhempbdionaaGreatDoor
open Go Go.RowKit Go.Sort
/-- The cells of a proof that is under way: l lies at block bl, the proof at block bp. -/
structure PSt (w : World) (bl bp : Nat) (A : Option Addr) (c n : Nat) (sh : Bool) : Prop where
  l : w.cell? ⟨bl, 0, none⟩ = some (.slice A n c)
  lf : w.frozen? ⟨bl, 0, none⟩ = false
  p0 : w.cell? ⟨bp, 0, none⟩ = some (.pointer (some ⟨bl, 0, none⟩))
  p1 : w.cell? ⟨bp, 1, none⟩ = some (.bool sh)
  pf : w.frozen? ⟨bp, 1, none⟩ = false
theorem PSt.below {w w' : World} {bl bp : Nat} {A : Option Addr} {c n : Nat} {sh : Bool} (h : PSt w bl bp A c n sh) (hl : bl < w.heap.size) (hp : bp < w.heap.size) (hb : Below w.heap.size w w') : PSt w' bl bp A c n sh :=
  ⟨(hb.cell (p := ⟨bl, 0, none⟩) hl).trans h.l, (hb.frozen (p := ⟨bl, 0, none⟩) hl).trans h.lf, (hb.cell (p := ⟨bp, 0, none⟩) hp).trans h.p0, (hb.cell (p := ⟨bp, 1, none⟩) hp).trans h.p1, (hb.frozen (p := ⟨bp, 1, none⟩) hp).trans h.pf⟩
/-- Blocks bl and bp alone have been written. -/
structure Mut (bl bp : Nat) (w w' : World) : Prop where
  os : w'.os = w.os
  tape : w'.tape = w.tape
  output : w'.output = w.output
  size : w.heap.size ≤ w'.heap.size
  block : ∀ k, k < w.heap.size → k ≠ bl → k ≠ bp → w'.heap[k]? = w.heap[k]?
theorem Mut.refl (bl bp : Nat) (w : World) : Mut bl bp w w := ⟨rfl, rfl, rfl, Nat.le_refl _, fun _ _ _ _ => rfl⟩
theorem Mut.trans {bl bp : Nat} {a b c : World} (h : Mut bl bp a b) (k : Mut bl bp b c) : Mut bl bp a c :=
  ⟨k.os.trans h.os, k.tape.trans h.tape, k.output.trans h.output, Nat.le_trans h.size k.size, fun i hi h1 h2 => (k.block i (Nat.lt_of_lt_of_le hi h.size) h1 h2).trans (h.block i hi h1 h2)⟩
theorem Mut.below {bl bp : Nat} {a b : World} (h : Below a.heap.size a b) : Mut bl bp a b := ⟨h.os, h.tape, h.output, h.size, fun i hi _ _ => h.block i hi⟩
theorem Mut.next {bl bp : Nat} {a b c : World} (h : Mut bl bp a b) (k : Below b.heap.size b c) : Mut bl bp a c := h.trans (Mut.below k)
theorem Mut.setCell {bl bp : Nat} {a b : World} (h : Mut bl bp a b) (q : Addr) (hq : q.block = bl ∨ q.block = bp) (v : Value) : Mut bl bp a (b.setCell q v) :=
  h.trans ⟨rfl, rfl, rfl, by simp [World.setCell], fun k _ h1 h2 => Below.heap_setCell _ _ _ _ (by rintro rfl; rcases hq with e | e; exact h1 e; exact h2 e)⟩
theorem Mut.drewN {bl bp : Nat} {a b : World} (h : Mut bl bp a b) (q : Nat) : Mut bl bp a (b.drewN q) := ⟨h.os, h.tape, h.output, h.size, h.block⟩
theorem Mut.cell {bl bp : Nat} {a b : World} (h : Mut bl bp a b) {p : Addr} (hp : p.block < a.heap.size) (h1 : p.block ≠ bl) (h2 : p.block ≠ bp) : b.cell? p = a.cell? p := World.cell?_of_block (w := a) (h.block p.block hp h1 h2)
end Go.Proofs.YtpldhempbdionaaGreatDoor
/- Check of package tree: its closure, then itself. -/
namespace Go.Proofs.YtpldhempbdionaaGreatDoor
open Go Go.RowKit Go.Sort
/-- Where the blocks lie that a proof under way uses. -/
structure Blk (w : World) (B bl bp bf bP bu : Nat) : Prop where
  g : 3 < B
  l : B ≤ bl
  p : B ≤ bp
  lp : bl ≠ bp
  fl : bf ≠ bl
  fp : bf ≠ bp
  Pl : bP ≠ bl
  Pp : bP ≠ bp
  ul : bu ≠ bl
  up : bu ≠ bp
  ll : bl < w.heap.size
  pl : bp < w.heap.size
  ff : bf < w.heap.size
  PP : bP < w.heap.size
  uu : bu < w.heap.size
theorem Blk.more {w w' : World} {B bl bp bf bP bu : Nat} (h : Blk w B bl bp bf bP bu) (hs : w.heap.size ≤ w'.heap.size) : Blk w' B bl bp bf bP bu :=
  ⟨h.g, h.l, h.p, h.lp, h.fl, h.fp, h.Pl, h.Pp, h.ul, h.up, Nat.lt_of_lt_of_le h.ll hs, Nat.lt_of_lt_of_le h.pl hs, Nat.lt_of_lt_of_le h.ff hs, Nat.lt_of_lt_of_le h.PP hs, Nat.lt_of_lt_of_le h.uu hs⟩
theorem Blk.lt {w : World} {B bl bp bf bP bu : Nat} (h : Blk w B bl bp bf bP bu) : B < w.heap.size := Nat.lt_of_le_of_lt h.l h.ll
theorem PSt.drew {w : World} {bl bp : Nat} {A : Option Addr} {c n : Nat} {sh : Bool} (h : PSt w bl bp A c n sh) : PSt w.drew bl bp A c n sh := ⟨h.l, h.lf, h.p0, h.p1, h.pf⟩
theorem Strs.drew {w : World} {B : Nat} {A : Option Addr} {l : List ByteArray} (h : Strs w B A l) : Strs w.drew B A l := h.keep fun _ _ => rfl
theorem Mut.drew {bl bp : Nat} {a b : World} (h : Mut bl bp a.drew b) : Mut bl bp a b := ⟨h.os, h.tape, h.output, h.size, h.block⟩
end Go.Proofs.YtpldhempbdionaaGreatDoor
/- The laws of links in plain Lean. No program in sight. -/
namespace Go.Proofs.YtpldhempbdionaaGreatDoor.Dg
/-! half is a power of two. -/
/-! The way of a link, from the root. -/
def wayF : Nat → Nat → Nat → List Bool
  | 0, _, _ => []
  | f + 1, n, m => if m = n then [] else if m ≤ half n then true :: wayF f (half n) m else false :: wayF f (n - half n) (m - half n)
def way (n m : Nat) : List Bool := wayF n n m
def longW : List Bool → Bool → Nat
  | [], whole => if whole then 0 else 1
  | b :: w, whole => 1 + longW w (b && whole)
def long (n m : Nat) (whole : Bool) : Nat := longW (way n m) whole
def bothW : List Bool → Bool → ByteArray → List ByteArray → ByteArray × ByteArray
  | [], whole, old, r => if whole then (old, old) else (r.headD ⟨#[]⟩, r.headD ⟨#[]⟩)
  | true :: w, whole, old, r => ((bothW w whole old r.tail).1, nodeB (bothW w whole old r.tail).2 (r.headD ⟨#[]⟩))
  | false :: w, _, old, r => (nodeB (r.headD ⟨#[]⟩) (bothW w false old r.tail).1, nodeB (r.headD ⟨#[]⟩) (bothW w false old r.tail).2)
def both (n m : Nat) (whole : Bool) (old : ByteArray) (r : List ByteArray) : ByteArray × ByteArray := bothW (way n m) whole old r
/-! P2.5: the link proves the extension. -/
/-! P2.6: what a link that proves another beginning shows. -/
/-! Sizes. -/
def bits : Nat → Nat → Nat
  | 0, _ => 0
  | f + 1, n => if n = 0 then 0 else 1 + bits f (n / 2)
end Go.Proofs.YtpldhempbdionaaGreatDoor.Dg
/- Check of package tree. -/
namespace Go.Proofs.YtpldhempbdionaaGreatDoor
open Go Go.RowKit Go.Sort
end Go.Proofs.YtpldhempbdionaaGreatDoor
/- The closure of Extends of package tree. -/
namespace Go.Proofs.YtpldhempbdionaaGreatDoor
open Go Go.RowKit Go.Sort
theorem PSt.drewN {w : World} {bl bp : Nat} {A : Option Addr} {c n : Nat} {sh : Bool} (h : PSt w bl bp A c n sh) (q : Nat) : PSt (w.drewN q) bl bp A c n sh := ⟨h.l, h.lf, h.p0, h.p1, h.pf⟩
end Go.Proofs.YtpldhempbdionaaGreatDoor
/- Extends of package tree. -/
namespace Go.Proofs.YtpldhempbdionaaGreatDoor
open Go Go.RowKit Go.Sort
end Go.Proofs.YtpldhempbdionaaGreatDoor
/- Path of the reference. -/
namespace Go.Proofs.YtpldhempbdionaaGreatDoor
open Go Go.RowKit Go.Sort
theorem OwnS.base {w : World} {B B' : Nat} {v : Value} {l : List ByteArray} (h : OwnS w B v l) (hB : B' ≤ B) : OwnS w B' v l := by
  obtain ⟨h1, h2⟩ := h
  refine ⟨h1, ?_⟩
  rcases h2 with h2 | ⟨g, cap, cur, hv, hg, hh, r⟩
  · exact Or.inl h2
  · exact Or.inr ⟨g, cap, cur, hv, by omega, hh, r⟩
theorem OwnS.alloc {w : World} {B : Nat} {v : Value} {l : List ByteArray} (h : OwnS w B v l) (o : Obj) : OwnS (w.alloc o) B v l := OwnV.alloc h o
theorem OwnS.drew {w : World} {B : Nat} {v : Value} {l : List ByteArray} (h : OwnS w B v l) : OwnS w.drew B v l := h
theorem Below.more {w W : World} (h : Below w.heap.size w W) (o : Obj) : Below w.heap.size w (W.alloc o) := h.alloc h.size o
theorem Below.news {w W : World} (_h : Below w.heap.size w W) (o : Obj) : Below W.heap.size W (W.alloc o) := (Below.refl _ _).alloc (Nat.le_refl _) o
end Go.Proofs.YtpldhempbdionaaGreatDoor
/- Path and Link of the reference. -/
namespace Go.Proofs.YtpldhempbdionaaGreatDoor
open Go Go.RowKit Go.Sort
end Go.Proofs.YtpldhempbdionaaGreatDoor
/- Check, long, both and Extends of the reference. -/
namespace Go.Proofs.YtpldhempbdionaaGreatDoor
open Go Go.RowKit Go.Sort
end Go.Proofs.YtpldhempbdionaaGreatDoor
/- Extends of the reference. -/
namespace Go.Proofs.YtpldhempbdionaaGreatDoor
open Go Go.RowKit Go.Sort
end Go.Proofs.YtpldhempbdionaaGreatDoor
/- Texts of the reference: the strings that are digested for a root. -/
namespace Go.Proofs.YtpldhempbdionaaGreatDoor
open Go Go.RowKit Go.Sort
/-- A slice of the call's own that is not empty. -/
theorem OwnS.full {w : World} {B : Nat} {v : Value} {l : List ByteArray} (h : OwnS w B v l) (h0 : 0 < l.length) : ∃ g cap, v = .slice (some ⟨g, 0, none⟩) l.length cap ∧ B ≤ g ∧ g < w.heap.size := by
  rcases h.cases with ⟨_, rfl⟩ | ⟨g, cap, h1, h2, h3, _⟩
  · simp at h0
  · exact ⟨g, cap, h1, h2, h3⟩
end Go.Proofs.YtpldhempbdionaaGreatDoor
/- Lists of strings of the call's own: more laws. No conditions. -/
namespace Go.Proofs.YtpldhempbdionaaGreatDoor
open Go Go.RowKit Go.Sort
theorem OwnS.bounds {w : World} {B g n cap : Nat} {l : List ByteArray} (h : OwnS w B (.slice (some ⟨g, 0, none⟩) n cap) l) : B ≤ g ∧ g < w.heap.size := by
  rcases h.cases with ⟨h, _⟩ | ⟨g', cap', h1, h2, h3, _, _, _⟩
  · injection h with h _ _; cases h
  · injection h1 with h1 _ _
    injection h1 with h1
    injection h1 with h1 _ _
    subst h1
    exact ⟨h2, h3⟩
/-! A literal's cell behind an append that may have written another row of the call's own. -/
end Go.Proofs.YtpldhempbdionaaGreatDoor
/- Appends of lists of strings where the operation is wanted. No conditions. -/
namespace Go.Proofs.YtpldhempbdionaaGreatDoor
open Go Go.RowKit Go.Sort
theorem wpList_wanted {P : Program} {ops : Array Oper} {Q : Exit → Act → World → Prop} {a : Act} {w : World} {rest : List Oper} {o : Oper} (hw : Region.wanted o (yielded ops a.tmps) = true)
    (h : ∀ K : Act → World → Prop, (∀ a w, wpList P ops Q rest a w → K a w) → o.wp P a w K Q) : wpList P ops Q (o :: rest) a w :=
  wpList_step fun K hK => by rw [if_pos hw]; exact h K hK
end Go.Proofs.YtpldhempbdionaaGreatDoor
/- Appends once more: whatever slice of strings, where the operation is wanted. -/
namespace Go.Proofs.YtpldhempbdionaaGreatDoor
open Go Go.RowKit Go.Sort
theorem run_append_none {P : Program} {w : World} (base : Nat) (t ty e : TypeId) (i : TypeInfo) (size : Nat) (ht : P.underlying t = some (.slice e)) (hi : P.info? e = some i) (v : Value) (n : Nat) (xs : List Value) (hown : w.ownsRow base e size v n xs) (c : Nat) :
    (Builtin.append_ #[t, t] ty #[v, .slice none 0 c]).run P w = .ok v w := by
  rcases hown.2 with ⟨rfl, rfl⟩ | ⟨g, cap, cur, rfl, _, _, hnc, _⟩
  · simp [Builtin.append_, run_underlying ht, sizeOf, typeInfo, hi, Builtin.lenOf, Builtin.firstCells]
  · simp [Builtin.append_, run_underlying ht, sizeOf, typeInfo, hi, Builtin.lenOf, Builtin.firstCells, hnc, storeCells]
theorem OwnS.grown {w w' : World} {B g n cap ga : Nat} {l : List ByteArray} (h : OwnS w B (.slice (some ⟨g, 0, none⟩) n cap) l) (hg : w.grownBy w' (some ga)) (hne : ga ≠ g) : OwnS w' B (.slice (some ⟨g, 0, none⟩) n cap) l := by
  have hb := h.bounds
  obtain ⟨h1, h2⟩ := h
  refine ⟨h1, ?_⟩
  rcases h2 with ⟨h2, _⟩ | ⟨g', cap', cur, hv, hB, hh, r⟩
  · injection h2 with h2 _ _; cases h2
  · have hv' := hv
    injection hv with hv _ _
    injection hv with hv
    injection hv with hv _ _
    subst hv
    exact Or.inr ⟨g, cap', cur, hv', hB, by rw [hg.block g hb.2 (fun e => hne (Option.some.inj e).symm)]; exact hh, r⟩
end Go.Proofs.YtpldhempbdionaaGreatDoor
/- Several slices of the call's own at once, in blocks apart: appends to one of them leave the others. Elements of one cell. No conditions. -/
namespace Go.Proofs.YtpldhempbdionaaGreatDoor
open Go Go.RowKit Go.Sort
/-- The slices rs (value, element type, cells) are the call's own from block B on, and lie in blocks apart. -/
structure OwnL (W : World) (B : Nat) (rs : List (Value × TypeId × List Value)) : Prop where
  own : ∀ r ∈ rs, OwnV W B r.2.1 r.1 r.2.2
  apart : rs.Pairwise fun a b => ∀ g, a.1.ownBlock = some g → b.1.ownBlock ≠ some g
theorem OwnV.lt {W : World} {B g : Nat} {e : TypeId} {v : Value} {xs : List Value} (h : OwnV W B e v xs) (hg : v.ownBlock = some g) : B ≤ g ∧ g < W.heap.size := by
  rcases h.2 with ⟨rfl, _⟩ | ⟨g', cap, cur, rfl, hb, hh, _⟩
  · simp [Value.ownBlock] at hg
  · obtain rfl : g' = g := by simpa [Value.ownBlock] using hg
    exact ⟨hb, (Array.getElem?_eq_some_iff.1 hh).1⟩
theorem OwnL.nil (W : World) (B : Nat) : OwnL W B [] := ⟨fun _ h => (by cases h), List.Pairwise.nil⟩
theorem OwnL.below {W W' : World} {B : Nat} {rs : List (Value × TypeId × List Value)} (h : OwnL W B rs) (hb : Below W.heap.size W W') : OwnL W' B rs :=
  ⟨fun r hr => (h.own r hr).below hb, h.apart⟩
theorem OwnL.tail {W : World} {B : Nat} {r : Value × TypeId × List Value} {rs : List (Value × TypeId × List Value)} (h : OwnL W B (r :: rs)) : OwnL W B rs :=
  ⟨fun x hx => h.own x (List.mem_cons_of_mem _ hx), (List.pairwise_cons.1 h.apart).2⟩
theorem OwnL.head {W : World} {B : Nat} {v : Value} {e : TypeId} {xs : List Value} {rs : List (Value × TypeId × List Value)} (h : OwnL W B ((v, e, xs) :: rs)) : OwnV W B e v xs := h.own _ (List.mem_cons_self ..)
/-- A new row: empty, without a block. -/
theorem OwnL.empty {W : World} {B : Nat} {rs : List (Value × TypeId × List Value)} (h : OwnL W B rs) (e : TypeId) : OwnL W B ((.slice none 0 0, e, []) :: rs) :=
  ⟨fun r hr => by
    rcases List.mem_cons.1 hr with rfl | hr
    · exact OwnV.nil W B e
    · exact h.own r hr, List.pairwise_cons.2 ⟨fun b _ g hg => by simp [Value.ownBlock] at hg, h.apart⟩⟩
/-- A row that a callee has made. -/
theorem OwnL.made {W W' : World} {B : Nat} {rs : List (Value × TypeId × List Value)} {v : Value} {e : TypeId} {xs : List Value} (h : OwnL W B rs) (hB : B ≤ W.heap.size) (hb : Below W.heap.size W W') (hv : OwnV W' W.heap.size e v xs) : OwnL W' B ((v, e, xs) :: rs) :=
  ⟨fun r hr => by
    rcases List.mem_cons.1 hr with rfl | hr
    · refine ⟨hv.1, ?_⟩
      rcases hv.2 with h1 | ⟨g, cap, cur, h1, h2, h3⟩
      · exact Or.inl h1
      · exact Or.inr ⟨g, cap, cur, h1, Nat.le_trans hB h2, h3⟩
    · exact (h.own r hr).below hb, List.pairwise_cons.2 ⟨fun b hb' g hg he => by
      have h1 := (hv.lt hg).1
      have h2 := ((h.own b hb').lt he).2
      omega, h.apart⟩⟩
/-- What is appended: cells that lie in a row, or none. -/
def Src (w : World) (A : Option Addr) (news : List Value) : Prop := (news = [] ∨ ∃ b off, A = some ⟨b, off, none⟩ ∧ ∀ (j : Nat) u, news[j]? = some u → w.cell? ⟨b, off + j, none⟩ = some u) ∧ ∀ u ∈ news, u.oneCell' = true
theorem Src.strs {w : World} {B : Nat} {A : Option Addr} {l : List ByteArray} (h : Strs w B A l) : Src w A (l.map .string) := by
  refine ⟨?_, fun u hu => by obtain ⟨s, _, rfl⟩ := List.mem_map.1 hu; rfl⟩
  rcases Nat.eq_zero_or_pos l.length with h0 | h0
  · exact Or.inl (by rw [List.length_eq_zero_iff.1 h0]; rfl)
  · obtain ⟨b, off, e, _, hc⟩ := h.at_ h0
    refine Or.inr ⟨b, off, e, fun j u hj => ?_⟩
    rw [List.getElem?_map] at hj
    cases hq : l[j]? with
    | none => rw [hq] at hj; cases hj
    | some s => rw [hq] at hj; cases hj; exact hc j s hq
theorem Src.lit (w : World) (cs : Array Value) (T : TypeId) (h1 : ∀ u ∈ cs.toList, u.oneCell' = true) : Src (w.alloc (.cells cs T)) (some ⟨w.heap.size, 0, none⟩) cs.toList :=
  ⟨Or.inr ⟨_, _, rfl, fun j u hj => by rw [cell_of_row _ _ _ _ _ (0, 0) (heap_alloc_new w _), Nat.zero_add, ← Array.getElem?_toList]; exact hj⟩, h1⟩
end Go.Proofs.YtpldhempbdionaaGreatDoor
/- Items of a code in memory; what a visit may write. No conditions but those that each theorem states. -/
namespace Go.Proofs.YtpldhempbdionaaGreatDoor
open Go Go.RowKit Go.Sort Go.Maps
/-- But for the blocks of S, and new ones, the world is as it was. -/
structure Off (S : List Nat) (w w' : World) : Prop where
  os : w'.os = w.os
  tape : w'.tape = w.tape
  output : w'.output = w.output
  size : w.heap.size ≤ w'.heap.size
  block : ∀ k, k < w.heap.size → k ∉ S → w'.heap[k]? = w.heap[k]?
theorem Off.refl (S : List Nat) (w : World) : Off S w w := ⟨rfl, rfl, rfl, Nat.le_refl _, fun _ _ _ => rfl⟩
theorem Off.trans {S T : List Nat} {a b c : World} (h : Off S a b) (k : Off T b c) (hT : ∀ g ∈ T, g ∈ S ∨ a.heap.size ≤ g) : Off S a c :=
  ⟨k.os.trans h.os, k.tape.trans h.tape, k.output.trans h.output, Nat.le_trans h.size k.size, fun i hi hn => (k.block i (Nat.lt_of_lt_of_le hi h.size) fun hm => by
    rcases hT i hm with h1 | h1
    · exact hn h1
    · omega).trans (h.block i hi hn)⟩
theorem Off.of_below {S : List Nat} {w w' : World} (h : Below w.heap.size w w') : Off S w w' := ⟨h.os, h.tape, h.output, h.size, fun k hk _ => h.block k hk⟩
theorem Off.below {S : List Nat} {w w' : World} {B : Nat} (h : Off S w w') (hB : B ≤ w.heap.size) (hS : ∀ g ∈ S, B ≤ g) : Below B w w' :=
  ⟨h.os, h.tape, h.output, h.size, fun k hk => h.block k (by omega) fun hm => by have := hS k hm; omega⟩
theorem Off.nil {w w' : World} (h : Off [] w w') : Below w.heap.size w w' := h.below (Nat.le_refl _) (fun _ h => by cases h)
theorem Off.of_grown {S : List Nat} {w w' : World} {row : Option Nat} (h : w.grownBy w' row) (hr : ∀ k, row = some k → k ∈ S) : Off S w w' :=
  ⟨h.os, h.tape, h.output, h.size, fun k hk hn => h.block k hk fun e => hn (hr k e.symm)⟩
theorem Off.setCell {S : List Nat} {a w : World} (h : Off S a w) {p : Addr} (hp : p.block ∈ S) (u : Value) : Off S a (w.setCell p u) :=
  ⟨h.os, h.tape, h.output, Nat.le_trans h.size (by simp [World.setCell]), fun k hk hn => (Below.heap_setCell _ _ _ _ (fun e => hn (by rw [e]; exact hp))).trans (h.block k hk hn)⟩
theorem Off.next {S : List Nat} {a w w' : World} (h : Off S a w) (hb : Below w.heap.size w w') : Off S a w' := h.trans (Off.of_below (S := S) hb) (fun _ hg => Or.inl hg)
theorem Off.row {S : List Nat} {w w' : World} {g : Nat} {o : Obj} (h : Off S w w') (hg : w.heap[g]? = some o) (hn : g ∉ S) : w'.heap[g]? = some o := (h.block g (lt_of_block hg) hn).trans hg
theorem OwnV.off {S : List Nat} {w w' : World} {B : Nat} {e : TypeId} {v : Value} {xs : List Value} (h : OwnV w B e v xs) (ho : Off S w w') (hn : ∀ g ∈ S, v.ownBlock ≠ some g) : OwnV w' B e v xs := by
  obtain ⟨h1, h2⟩ := h
  refine ⟨h1, ?_⟩
  rcases h2 with h2 | ⟨g, cap, cur, hv, hg, hh, r⟩
  · exact Or.inl h2
  · exact Or.inr ⟨g, cap, cur, hv, hg, ho.row hh (fun hm => hn g hm (by rw [hv]; rfl)), r⟩
theorem ownsMap_off {H : Type} {S : List Nat} {w w' : World} {P : Program} {k : TypeId} {R : Value → Option (DataW H × List MemPlace)} {b n : Nat} {D : DataW H} (h : w.ownsMap P k R b n D) (ho : Off S w w') (hn : b ∉ S) : w'.ownsMap P k R b n D := by
  obtain ⟨es, clock, h1, h2⟩ := h
  exact ⟨es, clock, ho.row h1 hn, h2⟩
theorem iCells {w : World} {g : Nat} {a0 a1 a2 a3 a4 a5 a6 : Value} {T : TypeId} (h : w.heap[g]? = some (.cells #[a0, a1, a2, a3, a4, a5, a6] T (0, 0))) :
    w.cell? ⟨g, 0, none⟩ = some a0 ∧ w.cell? ⟨g, 1, none⟩ = some a1 ∧ w.cell? ⟨g, 2, none⟩ = some a2 ∧ w.cell? ⟨g, 3, none⟩ = some a3 ∧ w.cell? ⟨g, 4, none⟩ = some a4 ∧ w.cell? ⟨g, 5, none⟩ = some a5 ∧ w.cell? ⟨g, 6, none⟩ = some a6 := by
  refine ⟨?_, ?_, ?_, ?_, ?_, ?_, ?_⟩ <;> (rw [cell_of_row _ _ _ _ _ (0, 0) h]; rfl)
theorem iNext {w w' : World} {g : Nat} {o : Obj} (h : w.heap[g]? = some o) (hb : Below w.heap.size w w') : w'.heap[g]? = some o := (hb.block g (lt_of_block h)).trans h
/-- The cells of an item. -/
def itV (x : Dg.It) : Array Value := #[.int .i64 x.kind, .string x.id, .string x.parent, .string x.number, .string x.north, .string x.south, .bool x.gone]
/-- What an item must be like for the walks: its kind in its range, texts of a moderate size. -/
structure ItW (x : Dg.It) : Prop where
  k0 : -9223372036854775808 ≤ x.kind
  k1 : x.kind ≤ 9223372036854775807
  iz : x.id.size ≤ 9223372036854775807
  pz : x.parent.size ≤ 9223372036854775807
  nz : x.number.size ≤ 9223372036854775807
  oz : x.north.size ≤ 9223372036854775807
  sz : x.south.size ≤ 9223372036854775807
/-- A slice of items. -/
structure Its (w : World) (B : Nat) (A : Option Addr) (l : List Dg.It) : Prop where
  at_ : 0 < l.length → ∃ b off, A = some ⟨b, off, none⟩ ∧ b < B ∧ ∀ (j : Nat) (x : Dg.It), l[j]? = some x → ∀ (i : Nat) (u : Value), (itV x)[i]? = some u → w.cell? ⟨b, off + j * 7 + i, none⟩ = some u
theorem Its.nil (w : World) (B : Nat) (A : Option Addr) : Its w B A [] := ⟨fun h => by simp at h⟩
theorem Its.below {w w' : World} {B : Nat} {A : Option Addr} {l : List Dg.It} (h : Its w B A l) (hb : Below B w w') : Its w' B A l :=
  ⟨fun h0 => by
    obtain ⟨b, off, e, hlt, hc⟩ := h.at_ h0
    exact ⟨b, off, e, hlt, fun j x hj i u hu => (hb.cell (p := ⟨b, off + j * 7 + i, none⟩) hlt).trans (hc j x hj i u hu)⟩⟩
theorem Its.more {w : World} {B B' : Nat} {A : Option Addr} {l : List Dg.It} (h : Its w B A l) (hB : B ≤ B') : Its w B' A l :=
  ⟨fun h0 => by
    obtain ⟨b, off, e, hlt, hc⟩ := h.at_ h0
    exact ⟨b, off, e, by omega, hc⟩⟩
theorem Its.keep {w w' : World} {A : Option Addr} {l : List Dg.It} (h : Its w w.heap.size A l) (hb : Below w.heap.size w w') : Its w' w'.heap.size A l := (h.below hb).more hb.size
theorem Its.get {w : World} {B : Nat} {A : Option Addr} {l : List Dg.It} (h : Its w B A l) {k : Nat} (hk : k < l.length) : ∃ b off, A = some ⟨b, off, none⟩ ∧ b < B ∧ ∀ (i : Nat) (u : Value), (itV l[k])[i]? = some u → w.cell? ⟨b, off + k * 7 + i, none⟩ = some u := by
  obtain ⟨b, off, e, hb, hc⟩ := h.at_ (by omega)
  exact ⟨b, off, e, hb, hc k l[k] (List.getElem?_eq_getElem hk)⟩
/-- The first ones of the items. -/
theorem Its.take {w : World} {B : Nat} {A : Option Addr} {l : List Dg.It} (h : Its w B A l) (k : Nat) : Its w B A (l.take k) :=
  ⟨fun h0 => by
    rw [List.length_take] at h0
    obtain ⟨b, off, e, hb, hc⟩ := h.at_ (by omega)
    exact ⟨b, off, e, hb, fun j x hj => hc j x (by rw [List.getElem?_take] at hj; split at hj; exact hj; cases hj)⟩⟩
end Go.Proofs.YtpldhempbdionaaGreatDoor
/- strings.IndexAny of whatever string at one or two bytes below 128. No conditions but those that each theorem states. -/
namespace Go.Proofs.YtpldhempbdionaaGreatDoor
open Go Go.RowKit Go.Sort
/-- A string's iterator goes on. -/
def setIter (w : World) (g : Nat) (s : ByteArray) (pos : Nat) : World := { w with heap := w.heap.setIfInBounds g (.stringIter s pos) }
theorem setIter_at {w : World} {g : Nat} (s : ByteArray) (pos : Nat) (hg : g < w.heap.size) : (setIter w g s pos).heap[g]? = some (.stringIter s pos) := by
  unfold setIter
  simp [hg]
theorem setIter_below {w w0 : World} {g : Nat} {s : ByteArray} {pos B : Nat} (h : Below B w0 w) (hB : B ≤ g) : Below B w0 (setIter w g s pos) :=
  ⟨h.os, h.tape, h.output, by unfold setIter; simpa using h.size, fun k hk => by
    unfold setIter
    show (w.heap.setIfInBounds g _)[k]? = _
    rw [Array.getElem?_setIfInBounds_ne (by omega)]
    exact h.block k hk⟩
theorem run_next_at {P : Program} (w : World) (g : Nat) (s : ByteArray) (pos : Nat) (ty : TypeId) (hg : w.heap[g]? = some (.stringIter s pos)) (h : pos < s.size) (c n : Nat) (hd : Utf8.decode s pos = (c, n)) :
    (Instr.next (.pointer (some ⟨g, 0, none⟩)) true ty).run P w = .ok (.tuple #[.bool true, .int .i64 pos, .int .i32 (c : Int)]) (setIter w g s (pos + n)) := by
  have hl : g < w.heap.size := lt_of_block hg
  simp only [Instr.next, getObj, setObj, Sem.run_bind, Sem.run, hg, Result.andThen, h, if_true, hd]
  simp [goInt, setIter]
theorem run_next_out {P : Program} (w : World) (g : Nat) (s : ByteArray) (pos : Nat) (ty : TypeId) (hg : w.heap[g]? = some (.stringIter s pos)) (h : ¬ pos < s.size) :
    (Instr.next (.pointer (some ⟨g, 0, none⟩)) true ty).run P w = .ok (.tuple #[.bool false]) w := by
  simp [Instr.next, getObj, Sem.run, hg, h]
theorem noAny_add {s chars : List UInt8} : ∀ (n i : Nat), Lib.NoAny s chars i → (∀ j, j < n → ∃ x, s[i + j]? = some x ∧ chars.contains x = false) → Lib.NoAny s chars (i + n)
  | 0, i, h, _ => h
  | n + 1, i, h, hs => by
    obtain ⟨x, h1, h2⟩ := hs n (by omega)
    exact (noAny_add n i h fun j hj => hs j (by omega)).succ h1 h2
theorem idxrune_at (C : ByteArray) (a0 a1 : UInt8) (hC : (⟨#[a0, a1]⟩ : ByteArray) = C) (h0 : a0.toNat < 128) (h1 : a1.toNat < 128) (r : Int) (hr : 128 ≤ r) (hv : r < 55296 ∨ (57343 < r ∧ r ≤ 1114111)) (w : World) :
    Calls Tryz.prog 108 #[.string C, .int .i32 r] w fun e w' => e = .returned (.int .i64 (-1)) ∧ Below w.heap.size w w' := by
  subst hC
  exact idxrune_wide a0 a1 h0 h1 r hr hv w
set_option maxHeartbeats 8000000 in
set_option maxRecDepth 1000000 in
theorem idxany_short (s : ByteArray) (h8 : s.size ≤ 8) (a0 a1 : UInt8) (h0 : a0.toNat < 128) (h1 : a1.toNat < 128) (w : World) :
    Calls Tryz.prog 89 #[.string s, .string ⟨#[a0, a1]⟩] w fun e w' => e = .returned (.int .i64 (Lib.indexAny s.data.toList [a0, a1])) ∧ Below w.heap.size w w' := by
  obtain ⟨C, hC⟩ : ∃ C : ByteArray, (⟨#[a0, a1]⟩ : ByteArray) = C := ⟨_, rfl⟩
  have hCs : C.size = 2 := by rw [← hC]; rfl
  have hCl : C.data.toList = [a0, a1] := by rw [← hC]
  have HC := hide hC
  rw [hC, ← hCl]
  clear hC
  have hemp : C.toList.isEmpty = false := by rw [Lib.toList_data, hCl]; rfl
  have hn1 : ((C.size : Int) == 1) = false := beq_eq_false_iff_ne.2 (by omega)
  have h8z : decide ((8 : Int) < (s.size : Int)) = false := decide_eq_false (by omega)
  have H0 := hide h0; have H1 := hide h1; have HCl := hide hCl
  clear h0 h1 hCl hCs
  go_enter Tryz.func89, Tryz.ntmps89
  go_wp2_with fail
  refine (Tryz.strings_shouldUseASCIISet (s.size : Int) w).mono ?_
  rintro e w' ⟨rfl, hw⟩
  subst hw
  rw [h8z]
  go_wp2
  go_loopg [9, 10] s.size (fun g _ _ wx => ∃ i : Nat, i + g = s.size ∧ wx.heap[w'.heap.size]? = some (.stringIter s i) ∧ Below w'.heap.size w' wx ∧ Lib.NoAny s.data.toList C.data.toList i)
  case atStart => exact ⟨0, by omega, World.iter_heap _ _ _, (Below.refl _ _).alloc (Nat.le_refl _) _, Lib.NoAny.zero _ _⟩
  case round =>
    obtain ⟨i, hig, hit, hbx, hno⟩ := hrel
    have HN := hide hno
    clear hno
    cases gk with
    | zero =>
      obtain rfl : i = s.size := by omega
      have hnx := fun ty => run_next_out (P := Tryz.prog) wr w'.heap.size s s.size ty hit (by omega)
      go_wp2
      go_ret
      exact ⟨by rw [Lib.indexAny_none (by rw [← Lib.size_eq]; exact HN.out)]; rfl, hbx⟩
    | succ g =>
      have hi : i < s.size := by omega
      have hil := lt_of_block hit
      obtain ⟨c, n, hcn⟩ : ∃ c n, Utf8.decode s i = (c, n) := ⟨_, _, rfl⟩
      have hnx := fun ty => run_next_at (P := Tryz.prog) wr w'.heap.size s i ty hit hi c n hcn
      have hit2 := setIter_at s (i + n) hil
      have hb2 := setIter_below (s := s) (pos := i + n) hbx (Nat.le_refl w'.heap.size)
      by_cases hasc : (s[i]'hi).toNat < 128
      · obtain ⟨x, hx⟩ : ∃ x : UInt8, s[i]'hi = x := ⟨_, rfl⟩
        have hxl : s.data.toList[i]? = some x := by rw [← hx]; exact Lib.data_getElem? s i hi
        have hdd := decode_ascii s i hi hasc
        rw [hcn, hx] at hdd
        rw [hx] at hasc
        cases hdd
        have Hx := hide hxl
        clear hxl hx hcn
        have hcon := Lib.contains_iff_indexByte C.data.toList x
        have hback : ((x.toNat : Int)).toNat.toUInt8 = x := by simp
        cases hin : C.data.toList.contains x
        · rw [hin] at hcon
          have hlt : ¬ ((0 : Int) ≤ Lib.indexByte C.data.toList x) := of_decide_eq_false hcon.symm
          clear hcon
          go_wp2_with fail
          refine (Tryz.strings_IndexRune_ascii C (x.toNat : Int) _ (by omega) (by omega)).mono ?_
          rintro e w2 ⟨rfl, hw⟩
          subst hw
          rw [hback]
          go_wp2
          go_roundg g
          case measure => omega
          case rel => exact ⟨i + 1, by omega, hit2, hb2, HN.out.succ Hx.out hin⟩
        · rw [hin] at hcon
          have hge : (0 : Int) ≤ Lib.indexByte C.data.toList x := of_decide_eq_true hcon.symm
          clear hcon
          go_wp2_with fail
          refine (Tryz.strings_IndexRune_ascii C (x.toNat : Int) _ (by omega) (by omega)).mono ?_
          rintro e w2 ⟨rfl, hw⟩
          subst hw
          rw [hback]
          go_wp2
          go_ret
          exact ⟨by rw [Lib.indexAny_hit HN.out Hx.out hin]; rfl, hb2⟩
      · have hget : s.get! i = s[i]'hi := by
          show s.data[i]! = s.data[i]
          rw [getElem!_pos s.data i hi]
        obtain ⟨d1, d2, d3, d4, d5⟩ := decode_wide s i hi (by rw [hget]; omega)
        rw [hcn] at d1 d2 d3 d4 d5
        simp only at d1 d2 d3 d4 d5
        have hrest : Lib.NoAny s.data.toList C.data.toList (i + n) := noAny_add n i HN.out fun j hj => by
          have hl : i + j < s.size := by omega
          refine ⟨s[i + j]'hl, Lib.data_getElem? s (i + j) hl, ?_⟩
          have hw := d4 j hj
          have hg2 : s.get! (i + j) = s[i + j]'hl := by
            show s.data[i + j]! = s.data[i + j]
            rw [getElem!_pos s.data (i + j) hl]
          rw [hg2] at hw
          rw [HCl.out]
          have e0 := H0.out; have e1 := H1.out
          have n0 : s[i + j]'hl ≠ a0 := fun e => by rw [e] at hw; omega
          have n1 : s[i + j]'hl ≠ a1 := fun e => by rw [e] at hw; omega
          simp [n0, n1]
        have HR := hide hrest
        have hs3 : Hid (i + n ≤ s.size) := d3
        clear hrest d4 hcn hget hasc
        go_wp2_with fail
        refine (idxrune_at C a0 a1 HC.out H0.out H1.out (c : Int) (by omega) (by omega) _).mono ?_
        rintro e w2 ⟨rfl, hb3⟩
        have hit3 : w2.heap[w'.heap.size]? = some (.stringIter s (i + n)) := (hb3.block _ (lt_of_block hit2)).trans hit2
        have hb4 := hb2.trans (hb3.mono hb2.size)
        clear hit2 hb2 hb3 hit hbx hnx
        go_wp2
        have hs4 := hs3.out
        go_roundg (s.size - (i + n))
        case measure => omega
        case rel => exact ⟨i + n, by omega, hit3, hb4, HR.out⟩
/-- strings.IndexAny of whatever string. -/
theorem idxany_of (s : ByteArray) (hs : s.size < 4294967281) (C : ByteArray) (st : List UInt8) (hC : C.data.toList = st) (h1 : 1 ≤ st.length) (h2 : st.length ≤ 2) (ha : ∀ x ∈ st, x.toNat < 128) (w : World) :
    Calls Tryz.prog 89 #[.string s, .string C] w fun e w' => e = .returned (.int .i64 (Lib.indexAny (Dg.L s) st)) ∧ Below w.heap.size w w' := by
  subst hC
  have hac : ∀ (j : Nat) b, C.data.toList[j]? = some b → b.toNat < 128 := fun j b hj => ha b (List.mem_of_getElem? hj)
  have hsz : C.data.toList.length = C.size := rfl
  rcases Nat.lt_or_ge 1 C.data.toList.length with h3 | h3
  · by_cases h8 : s.size ≤ 8
    · match h : C.data.toList, h3, h2, ha with
      | [a0, a1], _, _, ha =>
        have e : C = ⟨#[a0, a1]⟩ := by
          apply Dg.L_inj
          exact h
        subst e
        exact idxany_short s h8 a0 a1 (ha _ (by simp)) (ha _ (by simp)) w
    · have h116 : (Tryz.prog.info? 95).map (fun i => (i.zero, i.size)) = some (some (.agg (Array.replicate 256 (.bool false))), 256) := by kernel_rfl
      refine (Tryz.strings_IndexAny_long (zero_of_info h116).1 s C w (by omega) (by omega) hs (by omega) hac).mono fun e w' ⟨h1, h2⟩ => ⟨h1, ?_⟩
      rw [h2]
      exact ((Below.refl _ _).alloc (Nat.le_refl _) _).alloc (by simp) _
  · exact (Tryz.strings_IndexAny_one s C w (by omega) hac).mono fun e w' ⟨h1, h2⟩ => ⟨h1, h2 ▸ Below.refl _ _⟩
end Go.Proofs.YtpldhempbdionaaGreatDoor
/- isName and proper of package code: names, numbers, items apart from their place. No conditions but those that each theorem states. -/
namespace Go.Proofs.YtpldhempbdionaaGreatDoor
open Go Go.RowKit Go.Sort
theorem nameL_iff (l : List UInt8) : Dg.nameL l = true ↔ l ≠ [] ∧ ∀ (j : Nat) (c : UInt8), l[j]? = some c → Dg.letterB c = true ∨ (0 < j ∧ Dg.digitB c = true) := by
  cases l with
  | nil => simp [Dg.nameL]
  | cons d r =>
    rw [Dg.nameL, Bool.and_eq_true, List.all_eq_true]
    constructor
    · rintro ⟨h1, h2⟩
      refine ⟨by simp, fun j c hj => ?_⟩
      cases j with
      | zero => simp at hj; subst hj; exact Or.inl h1
      | succ j =>
        have hm := List.mem_of_getElem? (show r[j]? = some c by simpa using hj)
        have h3 := h2 c hm
        rw [Bool.or_eq_true] at h3
        exact h3.imp id (fun h => ⟨by omega, h⟩)
    · rintro ⟨_, h⟩
      refine ⟨by
        rcases h 0 d rfl with h1 | ⟨h1, _⟩
        · exact h1
        · omega, fun c hc => ?_⟩
      obtain ⟨j, hj⟩ := List.getElem?_of_mem hc
      have h3 := h (j + 1) c (by simpa using hj)
      rw [Bool.or_eq_true]
      exact h3.imp id (fun h => h.2)
/-- The bytes of a name so far. -/
def nmTo (l : List UInt8) (k : Nat) : Prop := ∀ (j : Nat) (c : UInt8), j < k → l[j]? = some c → Dg.letterB c = true ∨ (0 < j ∧ Dg.digitB c = true)
theorem nmTo_zero (l : List UInt8) : nmTo l 0 := fun _ _ h => by omega
theorem nmTo_succ {l : List UInt8} {k : Nat} {c : UInt8} (h : nmTo l k) (hc : l[k]? = some c) (h2 : Dg.letterB c = true ∨ (0 < k ∧ Dg.digitB c = true)) : nmTo l (k + 1) := fun j d hj hd => by
  by_cases e : j = k
  · subst e; rw [hc] at hd; cases hd; exact h2
  · exact h j d (by omega) hd
theorem nm_bad {s : ByteArray} {k : Nat} {c : UInt8} (hc : (Dg.L s)[k]? = some c) (h1 : Dg.letterB c = false) (h2 : k = 0 ∨ Dg.digitB c = false) : Dg.isNameB s = false := by
  unfold Dg.isNameB
  rw [Bool.and_eq_false_iff]
  left
  rw [Bool.eq_false_iff]
  intro h
  rcases ((nameL_iff _).1 h).2 k c hc with h3 | ⟨h3, h4⟩
  · rw [h1] at h3; cases h3
  · rcases h2 with h2 | h2
    · omega
    · rw [h2] at h4; cases h4
theorem nm_good {s : ByteArray} (h : nmTo (Dg.L s) s.size) : Dg.isNameB s = (decide (0 < s.size) && decide (s.size ≤ 24)) := by
  unfold Dg.isNameB
  congr 1
  by_cases h0 : 0 < s.size
  · rw [decide_eq_true h0]
    refine (nameL_iff _).2 ⟨fun e => ?_, fun j c hj => h j c ?_ hj⟩
    · have := Dg.len_L s; rw [e] at this; simp at this; omega
    · have := (List.getElem?_eq_some_iff.1 hj).1
      rw [Dg.len_L] at this; exact this
  · rw [decide_eq_false h0]
    have : Dg.L s = [] := List.length_eq_zero_iff.1 (by rw [Dg.len_L]; omega)
    rw [this]; rfl
/-- The ways of a byte. -/
theorem byte_cls (c : UInt8) : (97 ≤ c.toNat ∧ c.toNat ≤ 122 ∧ Dg.letterB c = true) ∨ (65 ≤ c.toNat ∧ c.toNat ≤ 90 ∧ Dg.letterB c = true) ∨ (c.toNat = 95 ∧ Dg.letterB c = false ∧ Dg.digitB c = true) ∨
    (48 ≤ c.toNat ∧ c.toNat ≤ 57 ∧ Dg.letterB c = false ∧ Dg.digitB c = true) ∨ (c.toNat < 48 ∧ Dg.letterB c = false ∧ Dg.digitB c = false) ∨ (57 < c.toNat ∧ c.toNat < 65 ∧ Dg.letterB c = false ∧ Dg.digitB c = false) ∨
    (90 < c.toNat ∧ c.toNat < 97 ∧ c.toNat ≠ 95 ∧ Dg.letterB c = false ∧ Dg.digitB c = false) ∨ (122 < c.toNat ∧ Dg.letterB c = false ∧ Dg.digitB c = false) := by
  have e1 : Dg.letterB c = decide ((97 ≤ c.toNat ∧ c.toNat ≤ 122) ∨ (65 ≤ c.toNat ∧ c.toNat ≤ 90)) := by
    unfold Dg.letterB
    simp [UInt8.le_iff_toNat_le]
  have e2 : Dg.digitB c = decide ((48 ≤ c.toNat ∧ c.toNat ≤ 57) ∨ c.toNat = 95) := by
    unfold Dg.digitB
    have : (c == 95) = decide (c.toNat = 95) := by
      rw [Bool.eq_iff_iff, beq_iff_eq, decide_eq_true_eq]
      exact ⟨fun h => by rw [h]; rfl, fun h => UInt8.toNat_inj.1 h⟩
    rw [this]
    simp [UInt8.le_iff_toNat_le]
  rw [e1, e2]
  simp only [decide_eq_true_eq, decide_eq_false_iff_not]
  omega
theorem byte_at {s : ByteArray} {k : Nat} (h : k < s.size) : (Dg.L s)[k]? = some (s[k]'h) := by
  show s.data.toList[k]? = _
  rw [Array.getElem?_toList]
  exact Array.getElem?_eq_getElem h
set_option maxHeartbeats 8000000 in
theorem isName_any (s : ByteArray) (R : Bool) (hR : Dg.isNameB s = R) (hs : s.size ≤ 9223372036854775807) (w : World) :
    Calls Tryz.prog 95 #[.string s] w fun e w' => e = .returned (.bool R) ∧ w' = w := by
  have HR := hide hR; clear hR
  go_enter Tryz.func95, Tryz.ntmps95
  go_wp2
  go_loop [9] (fun i => ∃ k : Nat, k ≤ s.size ∧ i = .int .i64 k ∧ Hid (nmTo (Dg.L s) k)) (fun i => s.size - (intOf i).toNat)
  case atStart => exact ⟨0, by omega, rfl, nmTo_zero _⟩
  case round =>
    obtain ⟨k, hk, rfl, hm⟩ := hrel
    by_cases hlt : k < s.size
    · have hc := byte_at hlt
      obtain ⟨c, hcc⟩ : ∃ c, s[k]'hlt = c := ⟨_, rfl⟩
      rw [hcc] at hc
      have HC := hide hc; clear hc
      have k0 : ((k : Int) == 0) = decide (k = 0) := by rw [Bool.eq_iff_iff, beq_iff_eq, decide_eq_true_eq]; omega
      rcases byte_cls c with ⟨b0, b1, hl⟩ | ⟨b0, b1, hl⟩ | ⟨b0, hl, hd⟩ | ⟨b0, b1, hl, hd⟩ | ⟨b0, hl, hd⟩ | ⟨b0, b1, hl, hd⟩ | ⟨b0, b1, b2, hl, hd⟩ | ⟨b0, hl, hd⟩
      · have q0 : 97 ≤ (c.toNat : Int) := by omega
        have q1 : (c.toNat : Int) ≤ 122 := by omega
        have q2 : 65 ≤ (c.toNat : Int) := by omega
        have q3 : ¬ (c.toNat : Int) ≤ 90 := by omega
        have q4 : 48 ≤ (c.toNat : Int) := by omega
        have q5 : ¬ (c.toNat : Int) ≤ 57 := by omega
        have q6 : ((c.toNat : Int) == 95) = false := by rw [beq_eq_false_iff_ne, ne_eq]; omega
        have HL := hide (show Dg.letterB c = true ∨ (0 < k ∧ Dg.digitB c = true) from Or.inl hl)
        clear hl b0 b1
        go_wp2
        go_round
        case rel => exact ⟨k + 1, by omega, by go_num, nmTo_succ hm.out HC.out HL.out⟩
        case measure => simp [intOf]; omega
      · have q0 : ¬ 97 ≤ (c.toNat : Int) := by omega
        have q1 : (c.toNat : Int) ≤ 122 := by omega
        have q2 : 65 ≤ (c.toNat : Int) := by omega
        have q3 : (c.toNat : Int) ≤ 90 := by omega
        have q4 : 48 ≤ (c.toNat : Int) := by omega
        have q5 : ¬ (c.toNat : Int) ≤ 57 := by omega
        have q6 : ((c.toNat : Int) == 95) = false := by rw [beq_eq_false_iff_ne, ne_eq]; omega
        have HL := hide (show Dg.letterB c = true ∨ (0 < k ∧ Dg.digitB c = true) from Or.inl hl)
        clear hl b0 b1
        go_wp2
        go_round
        case rel => exact ⟨k + 1, by omega, by go_num, nmTo_succ hm.out HC.out HL.out⟩
        case measure => simp [intOf]; omega
      · have q0 : ¬ 97 ≤ (c.toNat : Int) := by omega
        have q1 : (c.toNat : Int) ≤ 122 := by omega
        have q2 : 65 ≤ (c.toNat : Int) := by omega
        have q3 : ¬ (c.toNat : Int) ≤ 90 := by omega
        have q4 : 48 ≤ (c.toNat : Int) := by omega
        have q5 : ¬ (c.toNat : Int) ≤ 57 := by omega
        have q6 : ((c.toNat : Int) == 95) = true := by rw [beq_iff_eq]; omega
        by_cases kz : k = 0
        · have HL := hide (show Dg.letterB c = false ∧ (k = 0 ∨ Dg.digitB c = false) from ⟨hl, Or.inl kz⟩)
          clear hl hd b0
          have kb : decide (k = 0) = true := decide_eq_true kz
          clear kz
          go_wp2
          go_ret
          exact ⟨ret_bool (HR.out.symm.trans (nm_bad HC.out HL.out.1 HL.out.2)).symm, rfl⟩
        · have HL := hide (show Dg.letterB c = true ∨ (0 < k ∧ Dg.digitB c = true) from Or.inr ⟨by omega, hd⟩)
          clear hl hd b0
          have kb : decide (k = 0) = false := decide_eq_false kz
          clear kz
          go_wp2
          go_round
          case rel => exact ⟨k + 1, by omega, by go_num, nmTo_succ hm.out HC.out HL.out⟩
          case measure => simp [intOf]; omega
      · have q0 : ¬ 97 ≤ (c.toNat : Int) := by omega
        have q1 : (c.toNat : Int) ≤ 122 := by omega
        have q2 : ¬ 65 ≤ (c.toNat : Int) := by omega
        have q3 : (c.toNat : Int) ≤ 90 := by omega
        have q4 : 48 ≤ (c.toNat : Int) := by omega
        have q5 : (c.toNat : Int) ≤ 57 := by omega
        have q6 : ((c.toNat : Int) == 95) = false := by rw [beq_eq_false_iff_ne, ne_eq]; omega
        by_cases kz : k = 0
        · have HL := hide (show Dg.letterB c = false ∧ (k = 0 ∨ Dg.digitB c = false) from ⟨hl, Or.inl kz⟩)
          clear hl hd b0 b1
          have kb : decide (k = 0) = true := decide_eq_true kz
          clear kz
          go_wp2
          go_ret
          exact ⟨ret_bool (HR.out.symm.trans (nm_bad HC.out HL.out.1 HL.out.2)).symm, rfl⟩
        · have HL := hide (show Dg.letterB c = true ∨ (0 < k ∧ Dg.digitB c = true) from Or.inr ⟨by omega, hd⟩)
          clear hl hd b0 b1
          have kb : decide (k = 0) = false := decide_eq_false kz
          clear kz
          go_wp2
          go_round
          case rel => exact ⟨k + 1, by omega, by go_num, nmTo_succ hm.out HC.out HL.out⟩
          case measure => simp [intOf]; omega
      · have q0 : ¬ 97 ≤ (c.toNat : Int) := by omega
        have q1 : (c.toNat : Int) ≤ 122 := by omega
        have q2 : ¬ 65 ≤ (c.toNat : Int) := by omega
        have q3 : (c.toNat : Int) ≤ 90 := by omega
        have q4 : ¬ 48 ≤ (c.toNat : Int) := by omega
        have q5 : (c.toNat : Int) ≤ 57 := by omega
        have q6 : ((c.toNat : Int) == 95) = false := by rw [beq_eq_false_iff_ne, ne_eq]; omega
        have HL := hide (show Dg.letterB c = false ∧ (k = 0 ∨ Dg.digitB c = false) from ⟨hl, Or.inr hd⟩)
        clear hl hd b0
        by_cases kz : k = 0
        · have kb : decide (k = 0) = true := decide_eq_true kz
          clear kz
          go_wp2
          go_ret
          exact ⟨ret_bool (HR.out.symm.trans (nm_bad HC.out HL.out.1 HL.out.2)).symm, rfl⟩
        · have kb : decide (k = 0) = false := decide_eq_false kz
          clear kz
          go_wp2
          go_ret
          exact ⟨ret_bool (HR.out.symm.trans (nm_bad HC.out HL.out.1 HL.out.2)).symm, rfl⟩
      · have q0 : ¬ 97 ≤ (c.toNat : Int) := by omega
        have q1 : (c.toNat : Int) ≤ 122 := by omega
        have q2 : ¬ 65 ≤ (c.toNat : Int) := by omega
        have q3 : (c.toNat : Int) ≤ 90 := by omega
        have q4 : 48 ≤ (c.toNat : Int) := by omega
        have q5 : ¬ (c.toNat : Int) ≤ 57 := by omega
        have q6 : ((c.toNat : Int) == 95) = false := by rw [beq_eq_false_iff_ne, ne_eq]; omega
        have HL := hide (show Dg.letterB c = false ∧ (k = 0 ∨ Dg.digitB c = false) from ⟨hl, Or.inr hd⟩)
        clear hl hd b0 b1
        by_cases kz : k = 0
        · have kb : decide (k = 0) = true := decide_eq_true kz
          clear kz
          go_wp2
          go_ret
          exact ⟨ret_bool (HR.out.symm.trans (nm_bad HC.out HL.out.1 HL.out.2)).symm, rfl⟩
        · have kb : decide (k = 0) = false := decide_eq_false kz
          clear kz
          go_wp2
          go_ret
          exact ⟨ret_bool (HR.out.symm.trans (nm_bad HC.out HL.out.1 HL.out.2)).symm, rfl⟩
      · have q0 : ¬ 97 ≤ (c.toNat : Int) := by omega
        have q1 : (c.toNat : Int) ≤ 122 := by omega
        have q2 : 65 ≤ (c.toNat : Int) := by omega
        have q3 : ¬ (c.toNat : Int) ≤ 90 := by omega
        have q4 : 48 ≤ (c.toNat : Int) := by omega
        have q5 : ¬ (c.toNat : Int) ≤ 57 := by omega
        have q6 : ((c.toNat : Int) == 95) = false := by rw [beq_eq_false_iff_ne, ne_eq]; omega
        have HL := hide (show Dg.letterB c = false ∧ (k = 0 ∨ Dg.digitB c = false) from ⟨hl, Or.inr hd⟩)
        clear hl hd b0 b1 b2
        by_cases kz : k = 0
        · have kb : decide (k = 0) = true := decide_eq_true kz
          clear kz
          go_wp2
          go_ret
          exact ⟨ret_bool (HR.out.symm.trans (nm_bad HC.out HL.out.1 HL.out.2)).symm, rfl⟩
        · have kb : decide (k = 0) = false := decide_eq_false kz
          clear kz
          go_wp2
          go_ret
          exact ⟨ret_bool (HR.out.symm.trans (nm_bad HC.out HL.out.1 HL.out.2)).symm, rfl⟩
      · have q0 : 97 ≤ (c.toNat : Int) := by omega
        have q1 : ¬ (c.toNat : Int) ≤ 122 := by omega
        have q2 : 65 ≤ (c.toNat : Int) := by omega
        have q3 : ¬ (c.toNat : Int) ≤ 90 := by omega
        have q4 : 48 ≤ (c.toNat : Int) := by omega
        have q5 : ¬ (c.toNat : Int) ≤ 57 := by omega
        have q6 : ((c.toNat : Int) == 95) = false := by rw [beq_eq_false_iff_ne, ne_eq]; omega
        have HL := hide (show Dg.letterB c = false ∧ (k = 0 ∨ Dg.digitB c = false) from ⟨hl, Or.inr hd⟩)
        clear hl hd b0
        by_cases kz : k = 0
        · have kb : decide (k = 0) = true := decide_eq_true kz
          clear kz
          go_wp2
          go_ret
          exact ⟨ret_bool (HR.out.symm.trans (nm_bad HC.out HL.out.1 HL.out.2)).symm, rfl⟩
        · have kb : decide (k = 0) = false := decide_eq_false kz
          clear kz
          go_wp2
          go_ret
          exact ⟨ret_bool (HR.out.symm.trans (nm_bad HC.out HL.out.1 HL.out.2)).symm, rfl⟩
    · obtain rfl : k = s.size := by omega
      have hg := nm_good hm.out
      rw [HR.out] at hg
      have HG := hide hg
      clear hg hm HR
      by_cases h0 : s.toList = []
      · have hz : s.size = 0 := by
          have := Dg.len_L s
          rw [show Dg.L s = s.toList from (Lib.toList_data s).symm, h0] at this
          exact this.symm
        have HG2 := hide (show false = R by rw [HG.out, hz]; rfl)
        have n0 : s.toList.isEmpty = true := by rw [h0]; rfl
        clear HG hz
        go_wp2
        go_ret
        exact ⟨ret_bool HG2.out, rfl⟩
      · have hz : 0 < s.size := by
          rcases Nat.eq_zero_or_pos s.size with h1 | h1
          · exact absurd (List.length_eq_zero_iff.1 (by rw [Lib.toList_data]; exact (Dg.len_L s).trans h1)) h0
          · exact h1
        have HG2 := hide (show decide ((s.size : Int) ≤ 24) = R by rw [HG.out, decide_eq_true hz, Bool.true_and, Bool.eq_iff_iff, decide_eq_true_eq, decide_eq_true_eq]; omega)
        have n0 : s.toList.isEmpty = false := by rw [Bool.eq_false_iff]; exact fun h => h0 (List.isEmpty_iff.1 h)
        clear HG hz
        go_wp2
        go_ret
        exact ⟨ret_bool HG2.out, rfl⟩
end Go.Proofs.YtpldhempbdionaaGreatDoor
/- proper of package code: an item apart from its place. No conditions but those that each theorem states. -/
namespace Go.Proofs.YtpldhempbdionaaGreatDoor
open Go Go.RowKit Go.Sort
def numP (r : Nat) : Bool := !((decide (48 ≤ r) && decide (r ≤ 57)) || (decide (97 ≤ r) && decide (r ≤ 122)))
theorem numC_P (c : UInt8) : Dg.numC c = !numP c.toNat := by
  unfold Dg.numC numP
  simp [UInt8.le_iff_toNat_le]
theorem get_at {s : ByteArray} {k : Nat} (h : k < s.size) : s.get! k = s[k]'h := by
  show s.data[k]! = s.data[k]
  exact getElem!_pos s.data k h
theorem decode_lo (s : ByteArray) (i : Nat) (h : (s.get! i).toNat < 128) : Utf8.decode s i = ((s.get! i).toNat, 1) := by
  unfold Utf8.decode
  simp only [Nat.add_zero]
  rw [if_pos h]
theorem decode_hi (s : ByteArray) (i : Nat) (h : 128 ≤ (s.get! i).toNat) : 128 ≤ (Utf8.decode s i).1 := by
  unfold Utf8.decode
  simp only [Nat.add_zero]
  rw [if_neg (by omega)]
  repeat' split
  all_goals (try simp only [Utf8.runeError, Bool.and_eq_true, decide_eq_true_eq, ge_iff_le] at *)
  all_goals omega
theorem numP_hi {r : Nat} (h : 128 ≤ r) : numP r = true := by
  unfold numP
  rw [show decide (r ≤ 57) = false from decide_eq_false (by omega), show decide (r ≤ 122) = false from decide_eq_false (by omega)]
  simp
theorem num_from (s : ByteArray) : ∀ (f pos : Nat), s.size - pos ≤ f → (0 ≤ Lib.idxFuncFrom numP true s f pos ↔ ∃ (j : Nat) (c : UInt8), pos ≤ j ∧ (Dg.L s)[j]? = some c ∧ Dg.numC c = false)
  | 0, pos, h => by
    rw [Lib.idxFuncFrom]
    constructor
    · intro h1; omega
    · rintro ⟨j, c, h1, h2, _⟩
      have := (List.getElem?_eq_some_iff.1 h2).1
      rw [Dg.len_L] at this
      omega
  | f + 1, pos, h => by
    rw [Lib.idxFuncFrom]
    by_cases hp : pos < s.size
    · rw [if_pos hp]
      have hc := byte_at hp
      have hg := get_at hp
      generalize s[pos] = c at *
      by_cases hlo : c.toNat < 128
      · rw [decode_lo s pos (by rw [hg]; exact hlo), hg]
        by_cases hn : numP c.toNat = true
        · rw [if_pos hn]
          exact ⟨fun _ => ⟨pos, c, Nat.le_refl _, hc, by rw [numC_P, hn]; rfl⟩, fun _ => by omega⟩
        · rw [if_neg hn, num_from s f (pos + 1) (by omega)]
          constructor
          · rintro ⟨j, d, h1, h2⟩
            exact ⟨j, d, by omega, h2⟩
          · rintro ⟨j, d, h1, h2, h3⟩
            refine ⟨j, d, ?_, h2, h3⟩
            rcases Nat.eq_or_lt_of_le h1 with e | e
            · subst e
              rw [hc] at h2
              cases h2
              rw [numC_P, Bool.eq_false_iff.2 hn] at h3
              cases h3
            · omega
      · rw [if_pos (numP_hi (decode_hi s pos (by rw [hg]; omega)))]
        exact ⟨fun _ => ⟨pos, c, Nat.le_refl _, hc, by rw [numC_P, numP_hi (by omega)]; rfl⟩, fun _ => by omega⟩
    · rw [if_neg hp]
      constructor
      · intro h1; omega
      · rintro ⟨j, c, h1, h2, _⟩
        have := (List.getElem?_eq_some_iff.1 h2).1
        rw [Dg.len_L] at this
        omega
theorem num_idx (s : ByteArray) : decide (0 ≤ Lib.idxFunc numP true s) = !((Dg.L s).all Dg.numC) := by
  have h := num_from s s.size 0 (by omega)
  rw [Bool.eq_iff_iff, decide_eq_true_eq, Lib.idxFunc, h, Bool.not_eq_true', List.all_eq_false]
  constructor
  · rintro ⟨j, c, _, h1, h2⟩
    exact ⟨c, List.mem_of_getElem? h1, by rw [h2]; simp⟩
  · rintro ⟨c, h1, h2⟩
    obtain ⟨j, hj⟩ := List.getElem?_of_mem h1
    exact ⟨j, c, Nat.zero_le _, hj, by simpa using h2⟩
theorem num_cls (x : Nat) : (x < 48 ∧ numP x = true) ∨ (48 ≤ x ∧ x ≤ 57 ∧ numP x = false) ∨ (57 < x ∧ x < 97 ∧ numP x = true) ∨ (97 ≤ x ∧ x ≤ 122 ∧ numP x = false) ∨ (122 < x ∧ numP x = true) := by
  have : numP x = !decide ((48 ≤ x ∧ x ≤ 57) ∨ (97 ≤ x ∧ x ≤ 122)) := by
    unfold numP
    simp
  rw [this]
  simp only [Bool.not_eq_true', Bool.not_eq_false', decide_eq_true_eq, decide_eq_false_iff_not]
  omega
set_option maxHeartbeats 4000000 in
theorem num_pred (w : World) : PredAtRunes Tryz.prog 94 #[] numP w := fun W x hx _ => by
  unfold FnGives
  rcases num_cls x with ⟨b0, hr⟩ | ⟨b0, b1, hr⟩ | ⟨b0, b1, hr⟩ | ⟨b0, b1, hr⟩ | ⟨b0, hr⟩
  · rw [hr]
    have q0 : ¬ 48 ≤ (x : Int) := by omega
    have q1 : (x : Int) ≤ 57 := by omega
    have q2 : ¬ 97 ≤ (x : Int) := by omega
    have q3 : (x : Int) ≤ 122 := by omega
    clear b0 hr
    go_enter Tryz.func94, Tryz.ntmps94
    go_wp2
    go_ret
    exact ⟨rfl, 0, rfl⟩
  · rw [hr]
    have q0 : 48 ≤ (x : Int) := by omega
    have q1 : (x : Int) ≤ 57 := by omega
    have q2 : ¬ 97 ≤ (x : Int) := by omega
    have q3 : (x : Int) ≤ 122 := by omega
    clear b0 hr
    go_enter Tryz.func94, Tryz.ntmps94
    go_wp2
    go_ret
    exact ⟨rfl, 0, rfl⟩
  · rw [hr]
    have q0 : 48 ≤ (x : Int) := by omega
    have q1 : ¬ (x : Int) ≤ 57 := by omega
    have q2 : ¬ 97 ≤ (x : Int) := by omega
    have q3 : (x : Int) ≤ 122 := by omega
    clear b0 hr
    go_enter Tryz.func94, Tryz.ntmps94
    go_wp2
    go_ret
    exact ⟨rfl, 0, rfl⟩
  · rw [hr]
    have q0 : 48 ≤ (x : Int) := by omega
    have q1 : ¬ (x : Int) ≤ 57 := by omega
    have q2 : 97 ≤ (x : Int) := by omega
    have q3 : (x : Int) ≤ 122 := by omega
    clear b0 hr
    go_enter Tryz.func94, Tryz.ntmps94
    go_wp2
    go_ret
    exact ⟨rfl, 0, rfl⟩
  · rw [hr]
    have q0 : 48 ≤ (x : Int) := by omega
    have q1 : ¬ (x : Int) ≤ 57 := by omega
    have q2 : 97 ≤ (x : Int) := by omega
    have q3 : ¬ (x : Int) ≤ 122 := by omega
    clear b0 hr
    go_enter Tryz.func94, Tryz.ntmps94
    go_wp2
    go_ret
    exact ⟨rfl, 0, rfl⟩
theorem emp_iff (s : ByteArray) : decide (s = Dg.nil8) = s.toList.isEmpty := by
  rw [Bool.eq_iff_iff, decide_eq_true_eq, List.isEmpty_iff, Lib.toList_data]
  constructor
  · intro h; rw [h]; rfl
  · intro h
    obtain ⟨d⟩ := s
    obtain ⟨l⟩ := d
    show (⟨⟨l⟩⟩ : ByteArray) = ⟨#[]⟩
    simp at h
    rw [h]
set_option maxHeartbeats 4000000 in
theorem item_any (x : Dg.It) (R : Bool) (hR : Dg.properI x = R) (hx : ItW x) (w : World) :
    Calls Tryz.prog 70 #[.agg #[.int .i64 x.kind, .string x.id, .string x.parent, .string x.number, .string x.north, .string x.south, .bool x.gone]] w fun e w' => e = .returned (.bool R) ∧ Below w.heap.size w w' := by
  have hb0 := Below.news (Below.refl w.heap.size w) (.cells #[.int .i64 x.kind, .string x.id, .string x.parent, .string x.number, .string x.north, .string x.south, .bool x.gone] 31)
  have hx0 := heap_alloc_new w (.cells #[.int .i64 x.kind, .string x.id, .string x.parent, .string x.number, .string x.north, .string x.south, .bool x.gone] 31)
  obtain ⟨nb, hnb⟩ : ∃ b, Dg.isNumB x.number = b := ⟨_, rfl⟩
  obtain ⟨nm, hnm⟩ : ∃ b, Dg.isNameB x.id = b := ⟨_, rfl⟩
  have hiz := hx.iz
  have hb3 : x.north.toList.isEmpty = decide (x.north = Dg.nil8) := (emp_iff _).symm
  have hb4 : x.south.toList.isEmpty = decide (x.south = Dg.nil8) := (emp_iff _).symm
  unfold Dg.properI at hR
  rw [← hb3, ← hb4, hnb, hnm] at hR
  have hnum : Dg.isNumB x.number = (decide ((x.number.size : Int) ≤ 8) && !decide (0 ≤ Lib.idxFunc numP true x.number)) := by
    rw [num_idx, Bool.not_not]
    unfold Dg.isNumB
    congr 1
    rw [Bool.eq_iff_iff, decide_eq_true_eq, decide_eq_true_eq]
    omega
  rw [hnb] at hnum
  clear hb3 hb4 hnb hx
  obtain ⟨kd, id, par, num, nor, sou, gon⟩ := x
  dsimp only at *
  have HR := hide hR; have HU := hide hnum; have HN := hide hnm
  clear hR hnum hnm
  go_enter Tryz.func70, Tryz.ntmps70
  go_upto_region 1 with (fail)
  obtain ⟨c0, c1, c2, c3, c4, c5, c6⟩ := iCells hx0
  generalize w.alloc (.cells #[.int .i64 kd, .string id, .string par, .string num, .string nor, .string sou, .bool gon] 31) = w0 at *
  generalize hg : w.heap.size = g at *
  go_cut [3] from 4 to 13 (fun v wx => v = .bool nb ∧ Below w0.heap.size w0 wx)
  case first =>
    by_cases hl : (num.size : Int) ≤ 8
    · have HU2 := hide (show (!decide (0 ≤ Lib.idxFunc numP true num)) = nb by rw [HU.out, decide_eq_true hl, Bool.true_and])
      clear HU
      go_wp2_with fail
      have ev : ∀ args w, (callFunc 94 args).run Tryz.prog w = .ok (.enter 94 args) w := enters_of Tryz.func94 (by kernel_rfl) rfl
      refine (Tryz.strings_ContainsFunc_runes 94 #[] ev numP num _ (num_pred _)).mono ?_
      rintro e w1 ⟨rfl, hb1⟩
      clear ev
      obtain ⟨z, hz⟩ : ∃ z, decide (0 ≤ Lib.idxFunc numP true num) = z := ⟨_, rfl⟩
      have HU3 := HU2.out
      rw [hz] at HU3
      rw [hz]
      clear HU2 hz
      subst HU3
      go_wp2_with fail
      go_meet
      exact ⟨rfl, hb1⟩
    · have HU2 := HU.out
      rw [decide_eq_false hl, Bool.false_and] at HU2
      subst HU2
      go_wp2_with fail
      go_meet
      exact ⟨rfl, Below.refl _ _⟩
  case rest =>
    obtain ⟨rfl, hbc⟩ := hcut
    have hrow := iNext hx0 hbc
    have hb : Below w.heap.size w wc := bnext (by rw [hg]; exact hb0) hbc
    clear hg hx0 hbc hb0 HU c0 c1 c2 c3 c4 c5 c6
    generalize wc = w2 at *
    obtain ⟨c0, c1, c2, c3, c4, c5, c6⟩ := iCells hrow
    clear hrow
    replace HR := HR.out
    by_cases k1 : kd = 1
    · rw [if_pos k1] at HR
      have k1b : (kd == 1) = true := beq_iff_eq.2 k1
      clear k1
      replace HR := hide HR
      cases nb with
      | false =>
        clear HN
        go_wp2_with fail
        go_ret
        first | exact ⟨ret_bool HR.out, hb⟩ | exact ⟨ret_bool (by rw [← HR.out]; first | exact decide_eq_false (by omega) | exact decide_eq_true (by omega)), hb⟩
      | true =>
        go_wp2_with fail
        refine (isName_any id nm HN.out hiz _).mono ?_
        rintro e w9 ⟨rfl, hw9⟩
        subst hw9
        clear HN
        cases nm with
        | false =>
          go_wp2_with fail
          go_ret
          first | exact ⟨ret_bool HR.out, hb⟩ | exact ⟨ret_bool (by rw [← HR.out]; first | exact decide_eq_false (by omega) | exact decide_eq_true (by omega)), hb⟩
        | true =>
          obtain ⟨n1, hn1⟩ : ∃ b, nor.toList.isEmpty = b := ⟨_, rfl⟩
          rw [hn1] at HR
          cases n1 with
          | false =>
            go_wp2_with fail
            go_ret
            first | exact ⟨ret_bool HR.out, hb⟩ | exact ⟨ret_bool (by rw [← HR.out]; first | exact decide_eq_false (by omega) | exact decide_eq_true (by omega)), hb⟩
          | true =>
            obtain ⟨n2, hn2⟩ : ∃ b, sou.toList.isEmpty = b := ⟨_, rfl⟩
            rw [hn2] at HR
            cases n2 with
            | false =>
              go_wp2_with fail
              go_ret
              first | exact ⟨ret_bool HR.out, hb⟩ | exact ⟨ret_bool (by rw [← HR.out]; first | exact decide_eq_false (by omega) | exact decide_eq_true (by omega)), hb⟩
            | true =>
              cases gon with
              | false =>
                go_wp2_with fail
                go_ret
                first | exact ⟨ret_bool HR.out, hb⟩ | exact ⟨ret_bool (by rw [← HR.out]; first | exact decide_eq_false (by omega) | exact decide_eq_true (by omega)), hb⟩
              | true =>
                go_wp2_with fail
                go_ret
                first | exact ⟨ret_bool HR.out, hb⟩ | exact ⟨ret_bool (by rw [← HR.out]; first | exact decide_eq_false (by omega) | exact decide_eq_true (by omega)), hb⟩
    · rw [if_neg k1] at HR
      have k1b : (kd == 1) = false := beq_eq_false_iff_ne.2 k1
      clear k1
      by_cases k2 : kd = 2
      · rw [if_pos k2] at HR
        have k2b : (kd == 2) = true := beq_iff_eq.2 k2
        clear k2
        replace HR := hide HR
        cases nb with
        | false =>
          clear HN
          go_wp2_with fail
          go_ret
          first | exact ⟨ret_bool HR.out, hb⟩ | exact ⟨ret_bool (by rw [← HR.out]; first | exact decide_eq_false (by omega) | exact decide_eq_true (by omega)), hb⟩
        | true =>
          go_wp2_with fail
          refine (isName_any id nm HN.out hiz _).mono ?_
          rintro e w9 ⟨rfl, hw9⟩
          subst hw9
          clear HN
          cases nm with
          | false =>
            go_wp2_with fail
            go_ret
            first | exact ⟨ret_bool HR.out, hb⟩ | exact ⟨ret_bool (by rw [← HR.out]; first | exact decide_eq_false (by omega) | exact decide_eq_true (by omega)), hb⟩
          | true =>
            by_cases d1 : (nor.size : Int) ≤ 400
            rotate_left
            · rw [show decide (nor.size ≤ 400) = false from decide_eq_false (by omega)] at HR
              go_wp2_with fail
              go_ret
              first | exact ⟨ret_bool HR.out, hb⟩ | exact ⟨ret_bool (by rw [← HR.out]; first | exact decide_eq_false (by omega) | exact decide_eq_true (by omega)), hb⟩
            rw [show decide (nor.size ≤ 400) = true from decide_eq_true (by omega)] at HR
            by_cases d2 : (sou.size : Int) ≤ 400
            rotate_left
            · rw [show decide (sou.size ≤ 400) = false from decide_eq_false (by omega)] at HR
              go_wp2_with fail
              go_ret
              first | exact ⟨ret_bool HR.out, hb⟩ | exact ⟨ret_bool (by rw [← HR.out]; first | exact decide_eq_false (by omega) | exact decide_eq_true (by omega)), hb⟩
            rw [show decide (sou.size ≤ 400) = true from decide_eq_true (by omega)] at HR
            go_wp2_with fail
            go_ret
            first | exact ⟨ret_bool HR.out, hb⟩ | exact ⟨ret_bool (by rw [← HR.out]; first | exact decide_eq_false (by omega) | exact decide_eq_true (by omega)), hb⟩
      · rw [if_neg k2] at HR
        have k2b : (kd == 2) = false := beq_eq_false_iff_ne.2 k2
        clear k2
        replace HR := hide HR
        clear HN
        go_wp2_with fail
        go_ret
        first | exact ⟨ret_bool HR.out, hb⟩ | exact ⟨ret_bool (by rw [← HR.out]; first | exact decide_eq_false (by omega) | exact decide_eq_true (by omega)), hb⟩
end Go.Proofs.YtpldhempbdionaaGreatDoor
/- walk of package code, whatever it calls. No conditions but those that each theorem states. -/
namespace Go.Proofs.YtpldhempbdionaaGreatDoor
open Go Go.RowKit Go.Sort Go.Maps
theorem lawStr : Keyed Tryz.prog 9 := string_keyed Tryz.underlying9
theorem key_str (s : ByteArray) (hs : s.size ≤ 9223372036854775807) : keyOf Tryz.prog 9 (.string s) = some (.string s.data.toList) :=
  Go.WideMaps.keyOf_string_mk Tryz.underlying9 hs
set_option maxRecDepth 100000 in
theorem plainElem_bool_inv {v : Value} {z : DataW Unit × List MemPlace} (h : plainElem Tryz.prog 4 v = some z) : ∃ x, v = .bool x ∧ z = (.lit (.bool x), []) := by
  unfold plainElem at h
  rw [Tryz.underlying4] at h
  split at h
  · cases h; exact ⟨_, rfl, rfl⟩
  · rename_i h1; cases h1
  · rename_i h1; cases h1
  · cases h
noncomputable def rBo : Value → Option (DataW Unit × List MemPlace) := plainElem Tryz.prog 4
/-- The Ids that were seen, as the map reads. -/
noncomputable def seenS : List ByteArray → DataW Unit
  | [] => .map []
  | m :: s => (seenS s).put (.string m.data.toList) (.lit (.bool true))
theorem seenS_isMap : ∀ s, IsMap (seenS s)
  | [] => isMap_empty
  | _ :: s => (seenS_isMap s).put _ _
theorem seenS_at (m : ByteArray) : ∀ s, (seenS s).atKey (.string m.data.toList) (.lit (.bool false)) = .lit (.bool (Dg.inB s m))
  | [] => rfl
  | x :: s => by
    by_cases h : x = m
    · subst h
      rw [seenS, atKey_put_same (seenS_isMap s) (by trivial)]
      simp [Dg.inB]
    · rw [seenS, atKey_put_other (fun e => h (by
        obtain ⟨d⟩ := x; obtain ⟨d'⟩ := m
        injection e with e
        exact congrArg ByteArray.mk (Array.toList_inj.1 e.symm))), seenS_at m s]
      simp [Dg.inB, h]
set_option maxRecDepth 100000 in
theorem seenS_run {W : World} {mb N : Nat} {s : List ByteArray} (h : W.ownsMap Tryz.prog 9 rBo mb N (seenS s)) (m : ByteArray) (hm : m.size ≤ 9223372036854775807) :
    (Instr.lookup 91 (.map (some mb)) (.string m) false).run Tryz.prog W = .ok (.bool (Dg.inB s m)) W := by
  obtain ⟨v, ps, hrun, hv⟩ := h.lookup lawStr Tryz.underlying91 (z := .bool false) (by kernel_rfl) (plainElem_bool Tryz.underlying4 false) (key_str m hm)
  rw [seenS_at] at hv
  obtain ⟨x, rfl, hx⟩ := plainElem_bool_inv hv
  injection hx with hx _
  injection hx with hx
  injection hx with hx
  rw [hx]
  exact hrun
/-- What is open: a row of strings, in no block of S. -/
structure OpenAt (S : List Nat) (w : World) (A : Option Addr) (l : List ByteArray) : Prop where
  at_ : 0 < l.length → ∃ b, A = some ⟨b, 0, none⟩ ∧ b < w.heap.size ∧ b ∉ S ∧ ∀ (j : Nat) (s : ByteArray), l[j]? = some s → w.cell? ⟨b, j, none⟩ = some (.string s)
theorem OpenAt.nil (S : List Nat) (w : World) (A : Option Addr) : OpenAt S w A [] := ⟨fun h => by simp at h⟩
theorem OpenAt.strs {S : List Nat} {w : World} {A : Option Addr} {l : List ByteArray} (h : OpenAt S w A l) : Strs w w.heap.size A l :=
  ⟨fun h0 => by
    obtain ⟨b, e, hb, _, hc⟩ := h.at_ h0
    exact ⟨b, 0, e, hb, fun j s hj => by rw [Nat.zero_add]; exact hc j s hj⟩⟩
theorem OpenAt.take {S : List Nat} {w : World} {A : Option Addr} {l : List ByteArray} (h : OpenAt S w A l) (k : Nat) : OpenAt S w A (l.take k) :=
  ⟨fun h0 => by
    rw [List.length_take] at h0
    obtain ⟨b, e, hb, hn, hc⟩ := h.at_ (by omega)
    exact ⟨b, e, hb, hn, fun j s hj => hc j s (by rw [List.getElem?_take] at hj; split at hj; exact hj; cases hj)⟩⟩
theorem OpenAt.off {S T : List Nat} {w w' : World} {A : Option Addr} {l : List ByteArray} (h : OpenAt S w A l) (ho : Off S w w') (hT : ∀ g ∈ T, g ∈ S ∨ w.heap.size ≤ g) : OpenAt T w' A l :=
  ⟨fun h0 => by
    obtain ⟨b, e, hb, hn, hc⟩ := h.at_ h0
    refine ⟨b, e, Nat.lt_of_lt_of_le hb ho.size, fun hm => ?_, fun j s hj => ?_⟩
    · rcases hT b hm with h1 | h1
      · exact hn h1
      · omega
    · exact (World.cell?_of_block (w := w) (w' := w') (a := ⟨b, j, none⟩) (ho.block b hb hn)).trans (hc j s hj)⟩
theorem OpenAt.next {S : List Nat} {w w' : World} {A : Option Addr} {l : List ByteArray} (h : OpenAt S w A l) (hb : Below w.heap.size w w') : OpenAt S w' A l := h.off (Off.of_below hb) fun _ hg => Or.inl hg
/-- A new row. -/
theorem OpenAt.own {S : List Nat} {w : World} {B : Nat} {v : Value} {l : List ByteArray} (h : OwnS w B v l) (hS : ∀ g ∈ S, g < B) : ∃ A c, v = .slice A l.length c ∧ l.length ≤ c ∧ OpenAt S w A l := by
  rcases h.cases with ⟨rfl, rfl⟩ | ⟨g, cap, rfl, hB, hg, hc, hcell, _⟩
  · exact ⟨none, 0, rfl, by simp, OpenAt.nil _ _ _⟩
  · exact ⟨_, cap, rfl, hc, ⟨fun _ => ⟨g, rfl, hg, fun hm => by have := hS g hm; omega, hcell⟩⟩⟩
/-- What walk asks of the function that it calls: Inv k S W before the visit of item k: the blocks that it may write are those of S. -/
structure Visit (l : List Dg.It) (F : Nat) (lb : Array Value) (B0 n0 : Nat) (Inv : Nat → List Nat → World → Prop) : Prop where
  enters : ∀ args w, (callFunc F args).run Tryz.prog w = .ok (.enter F args) w
  stable : ∀ k S W W', Inv k S W → (∀ g ∈ S, W'.heap[g]? = W.heap[g]?) → Below n0 W W' → Inv k S W'
  lt : ∀ k S W, Inv k S W → ∀ g ∈ S, B0 ≤ g ∧ g < W.heap.size
  call : ∀ (k : Nat) (S : List Nat) (W : World) (o : List ByteArray) (A : Option Addr) (c : Nat) (vs : List (List ByteArray)) (s : Dg.Wk), k < l.length → Inv k S W → Dg.walkTo l (k + 1) = some (vs ++ [o], s) → vs.length = k →
    Strs W W.heap.size A o → o.length ≤ c → n0 ≤ W.heap.size →
    Calls Tryz.prog F (#[.int .i64 (k : Int), .slice A o.length c] ++ lb) W fun e W' => e = .returned (.tuple #[]) ∧ ∃ S', Inv (k + 1) S' W' ∧ Off S W W' ∧ ∀ g ∈ S', g ∈ S ∨ W.heap.size ≤ g
end Go.Proofs.YtpldhempbdionaaGreatDoor
/- walk of package code, whatever it calls: the walk. No conditions but those that each theorem states. -/
namespace Go.Proofs.YtpldhempbdionaaGreatDoor
open Go Go.RowKit Go.Sort Go.Maps
theorem idx_from (x : ByteArray) : ∀ (l : List ByteArray) (i : Nat), Lib.idxFromS l x i = if Dg.inB l x = true then ((i + l.findIdx (fun d => decide (d = x)) : Nat) : Int) else -1
  | [], i => by simp [Lib.idxFromS, Dg.inB]
  | z :: l, i => by
    by_cases h : z = x
    · subst h
      simp [Lib.idxFromS, Dg.inB, List.findIdx_cons]
    · have h2 : ¬ x = z := fun e => h e.symm
      rw [Lib.idxFromS, idx_from x l (i + 1)]
      have e1 : Dg.inB (z :: l) x = Dg.inB l x := by simp [Dg.inB, h]
      rw [e1, List.findIdx_cons, decide_eq_false h]
      simp only [h, if_false, cond_false]
      split
      · congr 1; omega
      · rfl
theorem idx_yes {l : List ByteArray} {x : ByteArray} (h : Dg.inB l x = true) : Lib.idxOfS l x = ((l.findIdx (fun d => decide (d = x)) : Nat) : Int) := by
  rw [Lib.idxOfS, idx_from, if_pos h, Nat.zero_add]
theorem idx_no {l : List ByteArray} {x : ByteArray} (h : Dg.inB l x = false) : Lib.idxOfS l x = -1 := by
  rw [Lib.idxOfS, idx_from, if_neg (by rw [h]; exact Bool.false_ne_true)]
theorem strs_cells {w : World} {b off : Nat} {l : List ByteArray} (hc : ∀ (j : Nat) (s : ByteArray), l[j]? = some s → w.cell? ⟨b, off + j, none⟩ = some (.string s)) : ∀ j, j < l.length → w.cell? ⟨b, off + j, none⟩ = some (.string (l.getD j ByteArray.empty)) := fun j hj => by
  rw [hc j l[j] (List.getElem?_eq_getElem hj), List.getD_eq_getElem?_getD, List.getElem?_eq_getElem hj]; rfl
theorem sindex_s (A : Option Addr) (n c : Nat) (l : List ByteArray) (x : ByteArray) (w : World) (hl : l.length = n) (hn : n ≤ 1099511627776) (hS : Strs w w.heap.size A l) :
    Calls Tryz.prog 71 #[.slice A n c, .string x] w fun e w' => e = .returned (.int .i64 (Lib.idxOfS l x)) ∧ w' = w := by
  subst hl
  rcases Nat.eq_zero_or_pos l.length with h0 | h0
  · obtain rfl := List.length_eq_zero_iff.1 h0
    exact Tryz.slices_Index_string_empty A c x w
  · obtain ⟨b, off, rfl, hb, hc⟩ := hS.at_ h0
    have := Tryz.slices_Index_string b off l.length c l x w (Nat.le_refl _) (by omega) (strs_cells hc)
    rw [List.take_length] at this
    exact this
theorem scontains_s (A : Option Addr) (n c : Nat) (l : List ByteArray) (x : ByteArray) (w : World) (hl : l.length = n) (hn : n ≤ 1099511627776) (hS : Strs w w.heap.size A l) (R : Bool) (hR : Dg.inB l x = R) :
    Calls Tryz.prog 38 #[.slice A n c, .string x] w fun e w' => e = .returned (.bool R) ∧ w' = w := by
  subst hl
  have key : Lib.containsS l x = R := by
    rw [← hR, Bool.eq_iff_iff, Lib.containsS_iff, Dg.inB_iff]
  rcases Nat.eq_zero_or_pos l.length with h0 | h0
  · obtain rfl := List.length_eq_zero_iff.1 h0
    rw [← hR]
    exact Tryz.slices_Contains_string_empty A c x w
  · obtain ⟨b, off, rfl, hb, hc⟩ := hS.at_ h0
    have := Tryz.slices_Contains_string b off l.length c l x w (Nat.le_refl _) (by omega) (strs_cells hc)
    rw [List.take_length, key] at this
    exact this
theorem bad_step {l : List Dg.It} {k : Nat} (hk : k < l.length) {vs : List (List ByteArray)} {s : Dg.Wk} (h : Dg.walkTo l k = some (vs, s)) (hs : Dg.stepI s l[k] = none) : Dg.validC l = false := by
  rw [Bool.eq_false_iff]
  intro hv
  obtain ⟨s1, h1, _⟩ := Dg.valid_walk hv
  obtain ⟨s2, h2⟩ := Dg.walk_le (Nat.le_refl _) h1 (k + 1) hk
  obtain ⟨vs0, s3, o, h3, h4, _⟩ := Dg.walk_step hk h2
  rw [h] at h3
  cases h3
  rw [hs] at h4
  cases h4
theorem good_step {l : List Dg.It} {k : Nat} (hk : k < l.length) {vs : List (List ByteArray)} {s s' : Dg.Wk} {o : List ByteArray} (h : Dg.walkTo l k = some (vs, s)) (hs : Dg.stepI s l[k] = some (o, s')) : Dg.walkTo l (k + 1) = some (vs ++ [o], s') := by
  rw [Dg.walkTo_succ l k hk, h]
  simp only [hs]
theorem op_len {l : List Dg.It} : ∀ {k : Nat} (_ : k ≤ l.length) {vs : List (List ByteArray)} {s : Dg.Wk}, Dg.walkTo l k = some (vs, s) → s.op.length ≤ k
  | 0, _, vs, s, h => by
    simp only [Dg.walkTo] at h
    cases h
    exact Nat.le_refl _
  | k + 1, hk, vs, s, h => by
    obtain ⟨vs0, s0, o, h1, h2, _⟩ := Dg.walk_step hk h
    have h3 := op_len (by omega) h1
    obtain ⟨_, _, j, _, ho, _, hop⟩ := Dg.stepI_some h2
    have h4 : o.length ≤ s0.op.length := by rw [ho, List.length_take]; omega
    rw [hop]
    split
    · rw [List.length_append, List.length_singleton]; omega
    · omega
theorem kk_facts {f k m n c : Nat} (h : f + 1 = k) (hf : f < m) (hm : m ≤ n) (hn : n ≤ 1048576) (hc : m ≤ c) : wrap64 ((f : Int) + 1) = (k : Int) ∧ ((k : Int) == 0) = false ∧ k ≤ m ∧ (k : Int) ≤ (m : Int) ∧ (k : Int) ≤ (c : Int) ∧ (0 : Int) ≤ (k : Int) := by
  refine ⟨?_, beq_eq_false_iff_ne.2 (by omega), by omega, by omega, by omega, by omega⟩
  rw [IntWalk.wrap64_in _ (by omega)]
  omega
theorem step_some (s : Dg.Wk) (x : Dg.It) (h1 : Dg.properI x = true) (h2 : Dg.inB s.seen x.id = false) (k : Nat) (hk : Dg.kOf s.op x.parent = some k) : Dg.stepI s x = some (s.op.take k, ⟨x.id :: s.seen, if x.kind = 1 then s.op.take k ++ [x.id] else s.op.take k⟩) := by
  unfold Dg.stepI
  rw [if_pos ⟨h1, h2⟩, hk]
theorem step_none3 (s : Dg.Wk) (x : Dg.It) (h1 : Dg.properI x = true) (h2 : Dg.inB s.seen x.id = false) (hk : Dg.kOf s.op x.parent = none) : Dg.stepI s x = none := by
  unfold Dg.stepI
  rw [if_pos ⟨h1, h2⟩, hk]
theorem step_none1 (s : Dg.Wk) (x : Dg.It) (h1 : Dg.properI x = false) : Dg.stepI s x = none := by
  unfold Dg.stepI
  rw [if_neg (fun h => by rw [h1] at h; exact absurd h.1 Bool.false_ne_true)]
theorem step_none2 (s : Dg.Wk) (x : Dg.It) (h1 : Dg.inB s.seen x.id = true) : Dg.stepI s x = none := by
  unfold Dg.stepI
  rw [if_neg (fun h => by rw [h1] at h; exact absurd h.2 (by simp))]
theorem Off.wide {S T : List Nat} {w w' : World} (h : Off S w w') (hT : ∀ g ∈ S, g ∈ T) : Off T w w' := ⟨h.os, h.tape, h.output, h.size, fun k hk hn => h.block k hk fun hm => hn (hT k hm)⟩
theorem grown_belowN {w w' : World} (hg : w.grownBy w' none) : Below w.heap.size w w' := ⟨hg.os, hg.tape, hg.output, hg.size, fun k hk => hg.block k hk (by simp)⟩
theorem iCells0 {w : World} {g : Nat} {a0 : Value} {T : TypeId} (h : w.heap[g]? = some (.cells #[a0] T (0, 0))) : w.cell? ⟨g, 0, none⟩ = some a0 := by
  rw [cell_of_row _ _ _ _ _ (0, 0) h]; rfl
set_option maxRecDepth 100000 in
set_option maxHeartbeats 8000000 in
theorem walk_any (l : List Dg.It) (A : Option Addr) (n c : Nat) (hl : l.length = n) (hw : ∀ x ∈ l, ItW x) (hn : n ≤ 1048576) (B0 : Nat) (w : World) (hI : Its w B0 A l) (hB : B0 ≤ w.heap.size)
    (F : Nat) (lb : Array Value) (Inv : Nat → List Nat → World → Prop) (hv : Visit l F lb B0 w.heap.size Inv) (S0 : List Nat) (h0 : Inv 0 S0 w) (R : Bool) (hR : Dg.validC l = R) :
    Calls Tryz.prog 35 #[.agg #[.slice A n c], .func (.func F) #[] lb] w fun e w' => e = .returned (.bool R) ∧ ∃ k S, (R = true → k = n) ∧ Inv k S w' ∧ Off S0 w w' ∧ ∀ g ∈ S, g ∈ S0 ∨ w.heap.size ≤ g := by
  have HR := hide hR; have HW := hide hw; have HL := hide hl; have HI := hide h0; have HV := hide hv; have HT := hide hI
  have hlt0 := hide (hv.lt 0 S0 w h0)
  clear hR hw hl h0 hv hI
  have hmm := @run_makeMap Tryz.prog
  have hx1 := Below.news (Below.refl w.heap.size w) (.cells #[.slice A n c] 24)
  have hx2 := Below.news (Below.refl (w.alloc (.cells #[.slice A n c] 24)).heap.size (w.alloc (.cells #[.slice A n c] 24))) (.map #[] 0)
  have hs1 : (w.alloc (.cells #[.slice A n c] 24)).heap.size = w.heap.size + 1 := by simp
  have hmap := World.ownsMap_made (w.alloc (.cells #[.slice A n c] 24)) Tryz.prog 9 rBo
  rw [hs1] at hmap
  have hc0 : ((w.alloc (.cells #[.slice A n c] 24)).alloc (.map #[] 0)).heap[w.heap.size]? = some (.cells #[.slice A n c] 24 (0, 0)) := iNext (heap_alloc_new w _) hx2
  have hb := bnext hx1 hx2
  have hs2 : ((w.alloc (.cells #[.slice A n c] 24)).alloc (.map #[] 0)).heap.size = w.heap.size + 2 := by simp
  clear hx1 hx2
  go_enter Tryz.func35, Tryz.ntmps35
  go_upto_region 3 with (fail)
  have hcc := iCells0 hc0
  obtain ⟨W0, hW0⟩ : ∃ W, (w.alloc (.cells #[.slice A n c] 24)).alloc (.map #[] 0) = W := ⟨_, rfl⟩
  rw [hW0] at hb hmap hc0 hcc hs2 ⊢
  clear hs1 hW0 hmm
  have hB2 := hide hs2
  clear hs2
  obtain ⟨mb, hmb⟩ : ∃ m, w.heap.size + 1 = m := ⟨_, rfl⟩
  rw [hmb] at hmap ⊢
  have hS0 : Hid (∀ g ∈ S0, g < w.heap.size) := fun g hg => (hlt0.out g hg).2
  go_wp2_with fail
  clear hcc
  have hst := hide ((HV.out).stable 0 S0 w W0 HI.out (fun g hg => hb.block g (hS0.out g hg)) hb)
  have hB2' : Hid (w.heap.size + 2 ≤ W0.heap.size) := Nat.le_of_eq hB2.out.symm
  clear hB2
  have HB2 := hB2'; clear hB2'
  go_loopw [6, 14] (fun ov iv wr => ∃ (k : Nat) (vs : List (List ByteArray)) (s : Dg.Wk) (Ao : Option Addr) (co : Nat) (S : List Nat), k ≤ n ∧ iv = .int .i64 k ∧ ov = .slice Ao s.op.length co ∧ s.op.length ≤ co ∧ Hid (Dg.walkTo l k = some (vs, s)) ∧ OpenAt (mb :: S) wr Ao s.op ∧
      wr.ownsMap Tryz.prog 9 rBo mb k (seenS s.seen) ∧ Hid (Inv k S wr) ∧ Off (mb :: S0) W0 wr ∧ Hid (∀ g ∈ S, g ∈ S0 ∨ W0.heap.size ≤ g)) (fun _ iv _ => n - (intOf iv).toNat)
  case atStart => exact ⟨0, [], ⟨[], []⟩, none, 0, S0, by omega, rfl, rfl, Nat.le_refl _, rfl, OpenAt.nil _ _ _, hmap, hst, Off.refl _ _, fun g hg => Or.inl hg⟩
  case round =>
    obtain ⟨k, vs, s, Ao, co, S, hk, rfl, rfl, hco, hwt, hop, hMr, hiv, hofr, hSr⟩ := hrel
    clear hmap hst
    have hmlt := hMr.lt
    have hoff : Hid (Off S0 w wr) := (Off.of_below hb).trans hofr (fun g hg => by
      rcases List.mem_cons.1 hg with rfl | hg
      · exact Or.inr (by omega)
      · exact Or.inl hg)
    have hmS : Hid (mb ∉ S) := fun hm => by
      rcases hSr.out mb hm with h1 | h1
      · have := hS0.out mb h1; omega
      · have := HB2.out; omega
    have hop_ := hide (op_len (by rw [HL.out]; exact hk) hwt.out)
    by_cases hlt : k < n
    · have hkl : k < l.length := by rw [HL.out]; exact hlt
      have hbB : Below B0 w wr := hoff.out.below hB (fun g hg => (hlt0.out g hg).1)
      obtain ⟨b, off, rfl, hbl, hcc⟩ := (HT.out.below hbB).get hkl
      have hxw := hide (HW.out l[k] (List.getElem_mem hkl))
      have hbad := hide (fun hs => bad_step hkl hwt.out hs)
      have hgood := hide (fun o s' hs => good_step (s' := s') (o := o) hkl hwt.out hs)
      generalize l[k] = x at *
      have p0 : wr.cell? ⟨b, off + k * 7, none⟩ = some (.int .i64 x.kind) := hcc 0 _ rfl
      have p1 : wr.cell? ⟨b, off + k * 7 + 1, none⟩ = some (.string x.id) := hcc 1 _ rfl
      have p2 : wr.cell? ⟨b, off + k * 7 + 2, none⟩ = some (.string x.parent) := hcc 2 _ rfl
      have p3 : wr.cell? ⟨b, off + k * 7 + 3, none⟩ = some (.string x.number) := hcc 3 _ rfl
      have p4 : wr.cell? ⟨b, off + k * 7 + 4, none⟩ = some (.string x.north) := hcc 4 _ rfl
      have p5 : wr.cell? ⟨b, off + k * 7 + 5, none⟩ = some (.string x.south) := hcc 5 _ rfl
      have p6 : wr.cell? ⟨b, off + k * 7 + 6, none⟩ = some (.bool x.gone) := hcc 6 _ rfl
      clear hcc
      have hk0 : (0 : Int) ≤ (k : Int) := by omega
      have hkn : (k : Int) < (n : Int) := by omega
      have hx := Below.news (Below.refl wr.heap.size wr) (.cells #[.int .i64 x.kind, .string x.id, .string x.parent, .string x.number, .string x.north, .string x.south, .bool x.gone] 31)
      have hrow := heap_alloc_new wr (.cells #[.int .i64 x.kind, .string x.id, .string x.parent, .string x.number, .string x.north, .string x.south, .bool x.gone] 31)
      go_wp2_with fail
      clear p0 p1 p2 p3 p4 p5 p6
      have hxb := hide (show Off S0 w wr ∧ Inv k S wr from ⟨hoff.out, hiv.out⟩)
      have hfin : Hid (∀ W, Off [mb] wr W → ∃ k S, (false = true → k = n) ∧ Inv k S W ∧ Off S0 w W ∧ ∀ g ∈ S, g ∈ S0 ∨ w.heap.size ≤ g) := fun W hW => by
        have hsz := hoff.out.size
        have hbw : Below w.heap.size wr W := hW.below hsz (fun g hg => by rw [List.mem_singleton.1 hg]; omega)
        refine ⟨k, S, (fun h => by cases h), HV.out.stable k S wr W hiv.out (fun g hg => hW.block g (HV.out.lt k S wr hiv.out g hg).2 (fun hm => hmS.out (by rw [← List.mem_singleton.1 hm]; exact hg))) hbw, hoff.out.trans hW (fun g hg => Or.inr (by rw [List.mem_singleton.1 hg]; omega)), fun g hg => (hSr.out g hg).imp id (fun h => by have := HB2.out; omega)⟩
      clear hxb
      generalize wr.alloc (.cells #[.int .i64 x.kind, .string x.id, .string x.parent, .string x.number, .string x.north, .string x.south, .bool x.gone] 31) = w1 at *
      obtain ⟨pb, hpb⟩ : ∃ b, Dg.properI x = b := ⟨_, rfl⟩
      refine (item_any x pb hpb hxw.out _).mono ?_
      rintro e w2 ⟨rfl, hb2⟩
      have hx2 := bnext hx hb2
      have hrow2 := iNext hrow hb2
      have hM2 := ownsMap_off (S := []) hMr (Off.of_below hx2) (by simp)
      clear hrow hx hb2 hMr
      obtain ⟨c0, c1, c2, c3, c4, c5, c6⟩ := iCells hrow2
      cases pb with
      | false =>
        have hR0 := hide (show false = R by rw [← HR.out]; exact (hbad.out (step_none1 s x hpb)).symm)
        clear hpb hM2
        go_wp2
        go_ret
        exact ⟨ret_bool hR0.out, by rw [← hR0.out]; exact hfin.out _ (Off.of_below hx2)⟩
      | true =>
        have hpb' := hide hpb; clear hpb
        obtain ⟨sb, hsb⟩ : ∃ b, Dg.inB s.seen x.id = b := ⟨_, rfl⟩
        have hrun := seenS_run hM2 x.id hxw.out.iz
        rw [hsb] at hrun
        cases sb with
        | true =>
          have hR0 := hide (show false = R by rw [← HR.out]; exact (hbad.out (step_none2 s x hsb)).symm)
          clear hsb hM2
          go_wp2
          go_ret
          exact ⟨ret_bool hR0.out, by rw [← hR0.out]; exact hfin.out _ (Off.of_below hx2)⟩
        | false =>
          have hsb' := hide hsb; clear hsb
          obtain ⟨w3, hrun3, hM3, hgr⟩ := World.ownsMap.update (w := w2) hM2 lawStr Tryz.underlying91 (by unfold maxLen; omega) (key_str x.id hxw.out.iz) (plainElem_bool (H := Unit) Tryz.underlying4 true)
          have ho3 : Off [mb] wr w3 := (Off.of_below (S := [mb]) hx2).trans (T := [mb]) (Off.of_grown hgr (fun j hj => by cases hj; simp)) (fun g hg => Or.inl hg)
          have hpe : x.parent.toList.isEmpty = decide (x.parent = Dg.nil8) := (emp_iff _).symm
          have HO3 := hide ho3; clear ho3
          go_upto_region 10 with (fail)
          have hrow3 : w3.heap[wr.heap.size]? = some (.cells #[.int .i64 x.kind, .string x.id, .string x.parent, .string x.number, .string x.north, .string x.south, .bool x.gone] 31 (0, 0)) := (hgr.block _ (lt_of_block hrow2) (by intro e; cases e; omega)).trans hrow2
          have hop3 : OpenAt (mb :: S) w3 Ao s.op := hop.off (HO3.out.wide (fun g hg => by rw [List.mem_singleton.1 hg]; exact List.mem_cons_self ..)) (fun g hg => Or.inl hg)
          clear c0 c1 c2 c3 c4 c5 c6 hrun hrun3 hgr hrow2 hM2 hx2 hop
          obtain ⟨c0, c1, c2, c3, c4, c5, c6⟩ := iCells hrow3
          have hs3 := hide HO3.out.size
          by_cases hp : x.parent = Dg.nil8
          · have hko := hide (show Dg.kOf s.op x.parent = some 0 by unfold Dg.kOf; rw [if_pos hp])
            have hpb : x.parent.toList.isEmpty = true := hpe.trans (decide_eq_true hp)
            clear hpe hp
            have hop0 := hop_.out
            go_upto_region 14 with (fail)
            obtain ⟨kk, hkk⟩ : ∃ kk : Nat, kk = 0 := ⟨0, rfl⟩
            rw [show Value.int .i64 0 = Value.int .i64 (kk : Int) by rw [hkk]; rfl]
            have hko2 := hide (show Dg.kOf s.op x.parent = some kk by rw [hkk]; exact hko.out)
            clear hko
            have hko := hko2
            clear hko2
            have hk1 : kk ≤ s.op.length := by omega
            have hk1I : (kk : Int) ≤ (s.op.length : Int) := by omega
            have hk1c : (kk : Int) ≤ (co : Int) := by omega
            have hk0' : (0 : Int) ≤ (kk : Int) := by omega
            clear hkk
            have hwl := Dg.walk_len (by omega) hwt.out
            have ho_len : (s.op.take kk).length = kk := by rw [List.length_take]; omega
            have hst' := step_some s x hpb'.out hsb'.out _ hko.out
            have hwt' := hgood.out _ _ hst'
            have hbw3 : Below w.heap.size wr w3 := HO3.out.below hoff.out.size (fun g hg => by rw [List.mem_singleton.1 hg]; omega)
            have hIv3 := (HV.out).stable k S wr w3 hiv.out (fun g hg => HO3.out.block g ((HV.out).lt k S wr hiv.out g hg).2 (fun hm => hmS.out (by rw [← List.mem_singleton.1 hm]; exact hg))) hbw3
            have hnS : Hid (wr.heap.size ∉ S) := fun hm => by have := ((HV.out).lt k S wr hiv.out _ hm).2; omega
            have hopk := hop3.take kk
            have hcall := (HV.out).call k S w3 (s.op.take kk) Ao kk vs _ hkl hIv3 hwt' hwl hopk.strs (Nat.le_of_eq ho_len) (Nat.le_trans hoff.out.size hs3.out)
            rw [ho_len] at hcall
            have HC := hide hcall; have HWT := hide hwt'; have HOL := hide ho_len; have HKO := hide hko.out
            clear hcall hwt' hst' hIv3 hwl ho_len hko
            have en := (HV.out).enters
            go_wp2_with fail
            clear en
            refine HC.out.mono ?_
            rintro e w5 ⟨rfl, S', hI5, ho5, hS5⟩
            have hrow5 := ho5.row hrow3 hnS.out
            have hM5 := ownsMap_off hM3 ho5 hmS.out
            have hoff5 : Off (mb :: S0) W0 w5 := (hofr.trans HO3.out (fun g hg => Or.inl (by rw [List.mem_singleton.1 hg]; exact List.mem_cons_self ..))).trans ho5 (fun g hg => (hSr.out g hg).imp (fun h => List.mem_cons_of_mem _ h) id)
            have hS5' : Hid (∀ g ∈ S', g ∈ S0 ∨ W0.heap.size ≤ g) := fun g hg => by
              rcases hS5 g hg with h1 | h1
              · exact hSr.out g h1
              · exact Or.inr (by have := hofr.size; have := HO3.out.size; omega)
            have hop5 : OpenAt (mb :: S') w5 Ao (s.op.take kk) := hopk.off (ho5.wide (fun g hg => List.mem_cons_of_mem _ hg)) (fun g hg => by
              rcases List.mem_cons.1 hg with rfl | hg
              · exact Or.inl (List.mem_cons_self ..)
              · exact (hS5 g hg).imp (fun h => List.mem_cons_of_mem _ h) id)
            have hsz5 := hide ho5.size
            have hI5' := hide hI5
            have hlt5 := hide ((HV.out).lt _ _ _ hI5)
            clear c0 c1 c2 c3 c4 c5 c6 hrow3 hM3 ho5 hS5 hop3 hopk hI5 HC
            obtain ⟨c0, c1, c2, c3, c4, c5, c6⟩ := iCells hrow5
            have hM6 : w5.ownsMap Tryz.prog 9 rBo mb (k + 1) (seenS (x.id :: s.seen)) := hM5
            clear hM5
            by_cases hkd : x.kind = 1
            · have kb : (x.kind == 1) = true := beq_iff_eq.2 hkd
              have HWT2 := HWT.out
              rw [if_pos hkd] at HWT2
              have HW3 := hide HWT2
              clear hkd HWT HWT2 hrow5
              obtain ⟨ti, ti1, ti2, ti3, ti4⟩ := info_parts strInfo
              have TI := hide (And.intro ti1 (And.intro ti2 (And.intro ti3 ti4)))
              clear ti1 ti2 ti3 ti4
              have hnone : Hid (Ao = none → kk = 0 ∧ kk = 0) := fun e => by
                rcases Nat.eq_zero_or_pos kk with h0 | h0
                · exact ⟨h0, h0⟩
                · obtain ⟨b', e', _⟩ := hop5.at_ (by rw [HOL.out]; exact h0)
                  rw [e] at e'
                  cases e'
              have hol : Hid (∀ b', Ao = some b' → ∀ (j : Nat) u, ((s.op.take kk).map Value.string)[j]? = some u → (w5.alloc (.cells #[.string x.id] 9)).cell? (b'.add j) = some u) := fun b' e j u hj => by
                rw [List.getElem?_map] at hj
                cases hq : (s.op.take kk)[j]? with
                | none => rw [hq] at hj; cases hj
                | some z =>
                  rw [hq] at hj
                  cases hj
                  obtain ⟨b2, e2, hb2, _, hc2⟩ := hop5.at_ (by have := (List.getElem?_eq_some_iff.1 hq).1; omega)
                  rw [e] at e2
                  cases e2
                  have := hc2 j z hq
                  rw [← this]
                  rw [addr_off, Nat.zero_add]
                  exact World.cell?_of_block (Below.heap_alloc _ _ _ hb2)
              go_wp2_with (at_builtin; refine wpList_append_grows _ rfl (.tmp 52) (.tmp 55) _ rfl _ ti _ 1 16 Tryz.underlying28 TI.out.1 TI.out.2.1 TI.out.2.2.1 TI.out.2.2.2 rfl (by decide) Ao kk kk ((s.op.take kk).map Value.string) rfl hnone.out (by rw [List.length_map, HOL.out, Nat.mul_one]) hol.out ⟨w5.heap.size, 0, none⟩ 1 1 [.string x.id] rfl rfl (fun j u hj => by
                  cases j with
                  | zero => cases hj; exact cell_of_row _ _ _ _ _ (0, 0) (heap_alloc_new w5 _)
                  | succ j => cases hj) (fun u hu => by rw [List.mem_singleton.1 hu]; rfl) (by omega) (by unfold maxLen; omega) (by omega) ?_; intro v6 w6 hown6 hg6)
              have hown : OwnS w6 (w5.alloc (.cells #[.string x.id] 9)).heap.size v6 (s.op.take kk ++ [x.id]) := by
                unfold OwnS OwnV
                rw [List.map_append, List.length_append, List.length_map, HOL.out]
                exact hown6
              have hx6 : Below w5.heap.size w5 w6 := (Below.news (Below.refl w5.heap.size w5) (.cells #[.string x.id] 9)).trans ((grown_belowN hg6).mono (by simp))
              obtain ⟨A6, c6', rfl, hc6, hop6⟩ := OpenAt.own (S := mb :: S') hown (fun g hg => by
                have h1 : (w5.alloc (.cells #[.string x.id] 9)).heap.size = w5.heap.size + 1 := by simp
                rw [h1]
                rcases List.mem_cons.1 hg with rfl | hg
                · have := hsz5.out; have := hs3.out; omega
                · have := (hlt5.out g hg).2; omega)
              have hlen6 : (s.op.take kk ++ [x.id]).length = kk + 1 := by rw [List.length_append, HOL.out]; rfl
              have hM7 := ownsMap_off (S := []) hM6 (Off.of_below hx6) (by simp)
              have hI7 := hide ((HV.out).stable (k + 1) S' w5 w6 hI5'.out (fun g hg => hx6.block g (hlt5.out g hg).2) (hx6.mono (by have := hoff.out.size; have := hs3.out; have := hsz5.out; omega)))
              have hoff7 := hoff5.next hx6
              clear hown6 hown hg6
              go_roundw
              case rel => exact ⟨k + 1, _, _, A6, c6', S', by omega, by go_num, by first | rfl | (rw [hlen6]), hc6, HW3, hop6, hM7, hI7, hoff7, hS5'⟩
              case measure => simp [intOf]; omega
            · have kb : (x.kind == 1) = false := beq_eq_false_iff_ne.2 hkd
              have HWT2 := HWT.out
              rw [if_neg hkd] at HWT2
              have HW3 := hide HWT2
              clear hkd HWT HWT2 hrow5
              go_wp2
              go_roundw
              case rel => exact ⟨k + 1, _, _, Ao, kk, S', by omega, by go_num, by rw [HOL.out], by rw [HOL.out]; exact Nat.le_refl _, HW3, hop5, hM6, hI5', hoff5, hS5'⟩
              case measure => simp [intOf]; omega
          · have hpb : x.parent.toList.isEmpty = false := hpe.trans (decide_eq_false hp)
            clear hpe
            obtain ⟨ib, hib⟩ : ∃ b, Dg.inB s.op x.parent = b := ⟨_, rfl⟩
            go_wp2_with fail
            refine (sindex_s Ao s.op.length co s.op x.parent _ rfl (by have := hop_.out; omega) hop3.strs).mono ?_
            rintro e w4 ⟨rfl, hw4⟩
            rw [hw4]
            clear hw4
            cases ib with
            | false =>
              have hR0 := hide (show false = R by rw [← HR.out]; exact (hbad.out (step_none3 s x hpb'.out hsb'.out (by unfold Dg.kOf; rw [if_neg hp, hib]; rfl))).symm)
              rw [idx_no hib]
              clear hib hp hM3
              go_wp2
              go_ret
              exact ⟨ret_bool hR0.out, by rw [← hR0.out]; exact hfin.out _ HO3.out⟩
            | true =>
              rw [idx_yes hib]
              have hko := hide (show Dg.kOf s.op x.parent = some (s.op.findIdx (fun d => decide (d = x.parent)) + 1) by unfold Dg.kOf; rw [if_neg hp, if_pos hib])
              have hfi : s.op.findIdx (fun d => decide (d = x.parent)) < s.op.length := by
                refine List.findIdx_lt_length_of_exists ?_
                exact ⟨x.parent, (Dg.inB_iff _ _).1 hib, decide_eq_true rfl⟩
              generalize s.op.findIdx (fun d => decide (d = x.parent)) = fi at *
              clear hib hp
              have hop0 := hop_.out
              obtain ⟨kk, hkk⟩ : ∃ kk, fi + 1 = kk := ⟨_, rfl⟩
              obtain ⟨hwf, hne, hk1, hk1I, hk1c, hk0'⟩ := kk_facts hkk hfi hop0 (Nat.le_trans hk hn) hco
              rw [hkk] at hko
              clear hkk hfi
              have hwl := Dg.walk_len (by omega) hwt.out
              have ho_len : (s.op.take kk).length = kk := by rw [List.length_take]; omega
              have hst' := step_some s x hpb'.out hsb'.out _ hko.out
              have hwt' := hgood.out _ _ hst'
              have hbw3 : Below w.heap.size wr w3 := HO3.out.below hoff.out.size (fun g hg => by rw [List.mem_singleton.1 hg]; omega)
              have hIv3 := (HV.out).stable k S wr w3 hiv.out (fun g hg => HO3.out.block g ((HV.out).lt k S wr hiv.out g hg).2 (fun hm => hmS.out (by rw [← List.mem_singleton.1 hm]; exact hg))) hbw3
              have hnS : Hid (wr.heap.size ∉ S) := fun hm => by have := ((HV.out).lt k S wr hiv.out _ hm).2; omega
              have hopk := hop3.take kk
              have hcall := (HV.out).call k S w3 (s.op.take kk) Ao kk vs _ hkl hIv3 hwt' hwl hopk.strs (Nat.le_of_eq ho_len) (Nat.le_trans hoff.out.size hs3.out)
              rw [ho_len] at hcall
              have HC := hide hcall; have HWT := hide hwt'; have HOL := hide ho_len; have HKO := hide hko.out
              clear hcall hwt' hst' hIv3 hwl ho_len hko
              have en := (HV.out).enters
              go_wp2_with fail
              clear en
              refine HC.out.mono ?_
              rintro e w5 ⟨rfl, S', hI5, ho5, hS5⟩
              have hrow5 := ho5.row hrow3 hnS.out
              have hM5 := ownsMap_off hM3 ho5 hmS.out
              have hoff5 : Off (mb :: S0) W0 w5 := (hofr.trans HO3.out (fun g hg => Or.inl (by rw [List.mem_singleton.1 hg]; exact List.mem_cons_self ..))).trans ho5 (fun g hg => (hSr.out g hg).imp (fun h => List.mem_cons_of_mem _ h) id)
              have hS5' : Hid (∀ g ∈ S', g ∈ S0 ∨ W0.heap.size ≤ g) := fun g hg => by
                rcases hS5 g hg with h1 | h1
                · exact hSr.out g h1
                · exact Or.inr (by have := hofr.size; have := HO3.out.size; omega)
              have hop5 : OpenAt (mb :: S') w5 Ao (s.op.take kk) := hopk.off (ho5.wide (fun g hg => List.mem_cons_of_mem _ hg)) (fun g hg => by
                rcases List.mem_cons.1 hg with rfl | hg
                · exact Or.inl (List.mem_cons_self ..)
                · exact (hS5 g hg).imp (fun h => List.mem_cons_of_mem _ h) id)
              have hsz5 := hide ho5.size
              have hI5' := hide hI5
              have hlt5 := hide ((HV.out).lt _ _ _ hI5)
              clear c0 c1 c2 c3 c4 c5 c6 hrow3 hM3 ho5 hS5 hop3 hopk hI5 HC
              obtain ⟨c0, c1, c2, c3, c4, c5, c6⟩ := iCells hrow5
              have hM6 : w5.ownsMap Tryz.prog 9 rBo mb (k + 1) (seenS (x.id :: s.seen)) := hM5
              clear hM5
              by_cases hkd : x.kind = 1
              · have kb : (x.kind == 1) = true := beq_iff_eq.2 hkd
                have HWT2 := HWT.out
                rw [if_pos hkd] at HWT2
                have HW3 := hide HWT2
                clear hkd HWT HWT2 hrow5
                obtain ⟨ti, ti1, ti2, ti3, ti4⟩ := info_parts strInfo
                have TI := hide (And.intro ti1 (And.intro ti2 (And.intro ti3 ti4)))
                clear ti1 ti2 ti3 ti4
                have hnone : Hid (Ao = none → kk = 0 ∧ kk = 0) := fun e => by
                  rcases Nat.eq_zero_or_pos kk with h0 | h0
                  · exact ⟨h0, h0⟩
                  · obtain ⟨b', e', _⟩ := hop5.at_ (by rw [HOL.out]; exact h0)
                    rw [e] at e'
                    cases e'
                have hol : Hid (∀ b', Ao = some b' → ∀ (j : Nat) u, ((s.op.take kk).map Value.string)[j]? = some u → (w5.alloc (.cells #[.string x.id] 9)).cell? (b'.add j) = some u) := fun b' e j u hj => by
                  rw [List.getElem?_map] at hj
                  cases hq : (s.op.take kk)[j]? with
                  | none => rw [hq] at hj; cases hj
                  | some z =>
                    rw [hq] at hj
                    cases hj
                    obtain ⟨b2, e2, hb2, _, hc2⟩ := hop5.at_ (by have := (List.getElem?_eq_some_iff.1 hq).1; omega)
                    rw [e] at e2
                    cases e2
                    have := hc2 j z hq
                    rw [← this]
                    rw [addr_off, Nat.zero_add]
                    exact World.cell?_of_block (Below.heap_alloc _ _ _ hb2)
                go_wp2_with (at_builtin; refine wpList_append_grows _ rfl (.tmp 52) (.tmp 55) _ rfl _ ti _ 1 16 Tryz.underlying28 TI.out.1 TI.out.2.1 TI.out.2.2.1 TI.out.2.2.2 rfl (by decide) Ao kk kk ((s.op.take kk).map Value.string) rfl hnone.out (by rw [List.length_map, HOL.out, Nat.mul_one]) hol.out ⟨w5.heap.size, 0, none⟩ 1 1 [.string x.id] rfl rfl (fun j u hj => by
                    cases j with
                    | zero => cases hj; exact cell_of_row _ _ _ _ _ (0, 0) (heap_alloc_new w5 _)
                    | succ j => cases hj) (fun u hu => by rw [List.mem_singleton.1 hu]; rfl) (by omega) (by unfold maxLen; omega) (by omega) ?_; intro v6 w6 hown6 hg6)
                have hown : OwnS w6 (w5.alloc (.cells #[.string x.id] 9)).heap.size v6 (s.op.take kk ++ [x.id]) := by
                  unfold OwnS OwnV
                  rw [List.map_append, List.length_append, List.length_map, HOL.out]
                  exact hown6
                have hx6 : Below w5.heap.size w5 w6 := (Below.news (Below.refl w5.heap.size w5) (.cells #[.string x.id] 9)).trans ((grown_belowN hg6).mono (by simp))
                obtain ⟨A6, c6', rfl, hc6, hop6⟩ := OpenAt.own (S := mb :: S') hown (fun g hg => by
                  have h1 : (w5.alloc (.cells #[.string x.id] 9)).heap.size = w5.heap.size + 1 := by simp
                  rw [h1]
                  rcases List.mem_cons.1 hg with rfl | hg
                  · have := hsz5.out; have := hs3.out; omega
                  · have := (hlt5.out g hg).2; omega)
                have hlen6 : (s.op.take kk ++ [x.id]).length = kk + 1 := by rw [List.length_append, HOL.out]; rfl
                have hM7 := ownsMap_off (S := []) hM6 (Off.of_below hx6) (by simp)
                have hI7 := hide ((HV.out).stable (k + 1) S' w5 w6 hI5'.out (fun g hg => hx6.block g (hlt5.out g hg).2) (hx6.mono (by have := hoff.out.size; have := hs3.out; have := hsz5.out; omega)))
                have hoff7 := hoff5.next hx6
                clear hown6 hown hg6
                go_roundw
                case rel => exact ⟨k + 1, _, _, A6, c6', S', by omega, by go_num, by first | rfl | (rw [hlen6]), hc6, HW3, hop6, hM7, hI7, hoff7, hS5'⟩
                case measure => simp [intOf]; omega
              · have kb : (x.kind == 1) = false := beq_eq_false_iff_ne.2 hkd
                have HWT2 := HWT.out
                rw [if_neg hkd] at HWT2
                have HW3 := hide HWT2
                clear hkd HWT HWT2 hrow5
                go_wp2
                go_roundw
                case rel => exact ⟨k + 1, _, _, Ao, kk, S', by omega, by go_num, by rw [HOL.out], by rw [HOL.out]; exact Nat.le_refl _, HW3, hop5, hM6, hI5', hoff5, hS5'⟩
                case measure => simp [intOf]; omega
    · obtain rfl : k = n := by omega
      have hrow := hofr.row hc0 (fun hm => by
        rcases List.mem_cons.1 hm with e | e
        · omega
        · have := hS0.out _ e; omega)
      have hcc := iCells0 hrow
      have hRR := hide (show decide ((k : Int) ≤ 2000) = R by
        rw [← HR.out]
        unfold Dg.validC
        rw [HL.out, hwt.out, Option.isSome_some, Bool.true_and, Bool.eq_iff_iff, decide_eq_true_eq, decide_eq_true_eq]
        omega)
      clear hrow hop hMr
      go_wp2
      go_ret
      exact ⟨ret_bool hRR.out, k, S, fun _ => rfl, hiv.out, hoff.out, fun g hg => (hSr.out g hg).imp id (fun h => by have := HB2.out; omega)⟩
end Go.Proofs.YtpldhempbdionaaGreatDoor
/- A region that draws its order, in the body of a range over a function: it goes by the plain laws. No conditions. -/
namespace Go.Proofs.YtpldhempbdionaaGreatDoor
open Go
section
variable {P : Program} {ops : Array Oper} {Q : Exit → Act → World → Prop} {md : Region.Mode}
end
end Go.Proofs.YtpldhempbdionaaGreatDoor

