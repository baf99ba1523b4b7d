import Derived.Test.YtmmpndijfbbnnaaDoorRef3
import Derived.Test.YtmmpndijfbbnnaaDoorDgLaw
namespace Go.Proofs.YtmmpndijfbbnnaaDoor
open Go Go.RowKit
/-! The contracts once more, with an open result and an open number of elements. -/
theorem is_of (s : ByteArray) (r : Bool) (hr : Dg.isB s = r) (hs : s.size ≤ 4611686018427387904) (w : World) :
    Calls Tryd.prog 37 #[.string s] w fun e w' => e = .returned (.bool r) ∧ Below w.heap.size w w' := by
  subst hr; exact is_any s hs w
theorem sum_of (s r : ByteArray) (hr : Dg.sumB s = r) (hs : s.size ≤ 9223372036854775807) (w : World) :
    Calls Tryd.prog 83 #[.string s] w fun e w' => e = .returned (.string r) ∧ Below w.heap.size w w' := by
  subst hr; exact sum_any s hs w
theorem list_of (A : Option Addr) (_n : Int) (c k : Nat) (l : List ByteArray) (hk : l.length = k) (r : ByteArray) (hr : Dg.listB l = r) (w : World) (he : Env w) (hl : l.length ≤ 1099511627776) (hj : (Dg.joinedL l).length ≤ 1099511627776) (hs : ∀ s ∈ l, s.size ≤ 1099511627776) (hS : Strs w w.heap.size A l) :
    Calls Tryd.prog 43 #[.slice A k c] w fun e w' => e = .returned (.string r) ∧ Below w.heap.size w w' := by
  subst hr hk; exact list_any A c l w he hl hj hs hS
theorem Strs.new (w : World) (l : List ByteArray) (cs : Array Value) (T : TypeId) (h : cs.toList = l.map .string) : Strs (w.alloc (.cells cs T)) (w.alloc (.cells cs T)).heap.size (some ⟨w.heap.size, 0, none⟩) l :=
  ⟨fun _ => ⟨w.heap.size, 0, rfl, by simp, fun j s hj => by
    rw [cell_of_row _ _ _ _ _ (0, 0) (heap_alloc_new w _), Nat.zero_add, ← Array.getElem?_toList, h, List.getElem?_map, hj]
    rfl⟩⟩
theorem tl_true {a b : ByteArray} (h : a = b) : (a.toList == b.toList) = true := by rw [str_ne]; exact decide_eq_true h
theorem tl_false {a b : ByteArray} (h : a ≠ b) : (a.toList == b.toList) = false := by rw [str_ne]; exact decide_eq_false h
theorem chain_of (s : ByteArray) (n : Int) (k : Nat) (hk : (min n 1000).toNat = k) (r : ByteArray) (hr : Dg.chainB s k = r) (hs : s.size ≤ 4611686018427387904) (w : World) :
    Calls Tryd.prog 68 #[.string s, .int .i64 n] w fun e w' => e = .returned (.string r) ∧ Below w.heap.size w w' := by
  subst hr hk; exact chain_any s hs n w
theorem bnext {w w1 w2 : World} (h : Below w.heap.size w w1) (h' : Below w1.heap.size w1 w2) : Below w.heap.size w w2 := h.trans (h'.mono h.size)
theorem bnextA {w w1 w2 : World} {o : Obj} (h : Below w.heap.size w w1) (h' : Below (w1.alloc o).heap.size (w1.alloc o) w2) : Below w.heap.size w w2 := bnext (h.alloc h.size o) h'
theorem Env.alloc {w : World} (h : Env w) (o : Obj) : Env (w.alloc o) := h.next ((Below.refl _ _).alloc (Nat.le_refl _) _)
end Go.Proofs.YtmmpndijfbbnnaaDoor
