/- What the walks ask of the world: the library's table of powers of ten as its initialiser lays it; a slice of strings that reads as a list. No conditions. -/
import Derived.Test.YtmmpndijfbbnnaaDoorKit
import Derived.Test.YtmmpndijfbbnnaaDoorProg
import Derived.Test.YtmmpndijfbbnnaaDoorShelf
import Derived.Test.YtmmpndijfbbnnaaDoorBuild
import Derived.Test.YtmmpndijfbbnnaaDoorDg
import Derived.Shelf.Strings.SlTrimAscii
import Derived.Lib.LaidTab
import Derived.OneCell
namespace Go.Proofs.YtmmpndijfbbnnaaDoor
open Go Go.RowKit Go.Sort
/-- The table is laid. -/
def Env (w : World) : Prop := Lib.TabIs Tryd.prog w "internal/strconv.uint64pow10" .u64 Lib.pow10Tab
theorem gPow : Tryd.prog.globalNamed "internal/strconv.uint64pow10" = some 3 := by kernel_rfl
theorem Env.lt {w : World} (h : Env w) : 3 < w.heap.size := by
  have := Lib.TabIs.cell h gPow 0 (by decide)
  exact World.block_lt_of_cell? _ _ this
theorem Env.below {w w' : World} {B : Nat} (h : Env w) (hb : Below B w w') (hB : 3 < B) : Env w' := var?_below hb gPow hB h
theorem Env.next {w w' : World} (h : Env w) (hb : Below w.heap.size w w') : Env w' := h.below hb h.lt
theorem below_grown (w : World) (k : Nat) (os : Array Obj) : Below w.heap.size w (grow (w.drewN k) os) :=
  ⟨rfl, rfl, rfl, by show w.heap.size ≤ (w.heap ++ os).size; simp, fun i hi => by
    show (w.heap ++ os)[i]? = w.heap[i]?
    rw [Array.getElem?_append_left hi]⟩
/-- The decimal digits as the library's word has them. -/
def decB (n : Nat) : ByteArray := Dg.B (Lib.decDigits n)
theorem itoa_any (k : Int) (n : Nat) (hk : k = n) (hn : n ≤ 9223372036854775807) (w : World) (he : Env w) :
    Calls Tryd.prog 82 #[.int .i64 k] w fun e w' => e = .returned (.string (decB n)) ∧ Below w.heap.size w w' := by
  subst hk
  refine (Tryd.strconv_Itoa n (by omega) (by omega) w he).mono ?_
  rintro e w' ⟨rfl, j, os, rfl⟩
  refine ⟨ret_str ?_, below_grown _ _ _⟩
  unfold Lib.itoa decB Dg.B
  rw [if_neg (by omega), Int.toNat_natCast]
/-- A slice of strings: its address, and the list that it reads as; below block B. -/
structure Strs (w : World) (B : Nat) (A : Option Addr) (l : List ByteArray) : Prop where
  at_ : 0 < l.length → ∃ b off, A = some ⟨b, off, none⟩ ∧ b < B ∧ ∀ (j : Nat) (s : ByteArray), l[j]? = some s → w.cell? ⟨b, off + j, none⟩ = some (.string s)
theorem Strs.nil (w : World) (B : Nat) (A : Option Addr) : Strs w B A [] := ⟨fun h => by simp at h⟩
theorem Strs.keep {w w' : World} {B : Nat} {A : Option Addr} {l : List ByteArray} (h : Strs w B A l) (hk : ∀ p : Addr, p.block < B → w'.cell? p = w.cell? p) : Strs w' B A l :=
  ⟨fun hl => by
    obtain ⟨b, off, e, hb, hc⟩ := h.at_ hl
    exact ⟨b, off, e, hb, fun j s hj => (hk _ hb).trans (hc j s hj)⟩⟩
theorem Strs.below {w w' : World} {B : Nat} {A : Option Addr} {l : List ByteArray} (h : Strs w B A l) (hb : Below B w w') : Strs w' B A l := h.keep fun _ hp => hb.cell hp
theorem Strs.more {w : World} {B B' : Nat} {A : Option Addr} {l : List ByteArray} (h : Strs w B A l) (hB : B ≤ B') : Strs w B' A l :=
  ⟨fun hl => by
    obtain ⟨b, off, e, hb, hc⟩ := h.at_ hl
    exact ⟨b, off, e, by omega, hc⟩⟩
theorem Strs.get {w : World} {B : Nat} {A : Option Addr} {l : List ByteArray} (h : Strs w B A l) {k : Nat} (hk : k < l.length) : ∃ b off, A = some ⟨b, off, none⟩ ∧ b < B ∧ w.cell? ⟨b, off + k, none⟩ = some (.string l[k]) := by
  obtain ⟨b, off, e, hb, hc⟩ := h.at_ (by omega)
  exact ⟨b, off, e, hb, hc k _ (List.getElem?_eq_getElem hk)⟩
theorem decF_eq (f n : Nat) (h : n < 10 ^ f) (hf : 0 < f) : Dg.decF f n = Lib.decDigits n := by
  induction f generalizing n with
  | zero =>
    omega
  | succ f ih =>
    rw [Dg.decF, Lib.decDigits]
    by_cases h1 : n < 10
    · rw [if_pos h1, dif_pos h1]
    · have h2 : 0 < f := by
        rcases Nat.eq_zero_or_pos f with h0 | h0
        · subst h0; simp at h; omega
        · exact h0
      rw [if_neg h1, dif_neg h1, ih _ (by rw [Nat.pow_succ] at h; omega) h2]
theorem dec_eq (n : Nat) (h : n ≤ 9223372036854775807) : Dg.dec n = Lib.decDigits n := decF_eq 20 n (by omega) (by omega)
theorem L_decB (n : Nat) (h : n ≤ 9223372036854775807) : Dg.L (decB n) = Dg.dec n := (dec_eq n h).symm
theorem decB_size (n : Nat) (h : n ≤ 9223372036854775807) : (decB n).size ≤ 20 := by
  rw [← Dg.len_L, L_decB n h]; exact Dg.dec_len n
theorem own_below {w w' : World} {base : Nat} {e : TypeId} {size : Nat} {v : Value} {n : Nat} {xs : List Value} (h : w.ownsRow base e size v n xs) (hb : Below w.heap.size w w') : w'.ownsRow base e size v n xs := by
  obtain ⟨h1, h2⟩ := h
  refine ⟨h1, ?_⟩
  rcases h2 with h2 | ⟨g, cap, cur, hv, hg, hh, r⟩
  · exact Or.inl h2
  · exact Or.inr ⟨g, cap, cur, hv, hg, by rw [hb.block g (lt_of_block hh)]; exact hh, r⟩
theorem builder_below {T e : TypeId} {B b : Nat} {bs : List Value} {w w' : World} (h : Lib.IsBuilder T e B b bs w) (hb : Below w.heap.size w w') : Lib.IsBuilder T e B b bs w' := by
  rcases h with ⟨h1, v, h2, h3, h4⟩ | ⟨h1, v, h2, h3, h4⟩
  · exact Or.inl ⟨h1, v, by rw [hb.block b (lt_of_block h2)]; exact h2, own_below h3 hb, h4⟩
  · exact Or.inr ⟨h1, v, by rw [hb.block b (lt_of_block h2)]; exact h2, own_below h3 hb, h4⟩
theorem builder_new (T e : TypeId) (w : World) : Lib.IsBuilder T e w.heap.size w.heap.size [] (w.alloc (.cells #[.pointer none, .slice none 0 0] T)) :=
  Or.inl ⟨Nat.le_refl _, .slice none 0 0, heap_alloc_new w _, ⟨rfl, .inl ⟨rfl, rfl⟩⟩, by simp [Value.ownBlock]⟩
end Go.Proofs.YtmmpndijfbbnnaaDoor
