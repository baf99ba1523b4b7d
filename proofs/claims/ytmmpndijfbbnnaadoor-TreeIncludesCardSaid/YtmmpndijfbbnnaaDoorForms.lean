/- The contracts of layer 1 with an open result, once more, and small forms. -/
import Derived.Test.YtmmpndijfbbnnaaDoorHead
namespace Go.Proofs.YtmmpndijfbbnnaaDoor
open Go Go.RowKit
theorem keepS {w w' : World} {A : Option Addr} {l : List ByteArray} (h : Strs w w.heap.size A l) (hb : Below w.heap.size w w') : Strs w' w'.heap.size A l := (h.below hb).more hb.size
theorem joined_of (A : Option Addr) (c k : Nat) (l : List ByteArray) (hk : l.length = k) (r : ByteArray) (hr : Dg.B (Dg.joinedL l) = r) (w : World) (hl : l.length ≤ 1048576) (hj : (Dg.joinedL l).length ≤ 1099511627776) (hs : ∀ s ∈ l, s.size ≤ 1048576) (hS : Strs w w.heap.size A l) :
    Calls Tryd.prog 65 #[.slice A k c] w fun e w' => e = .returned (.string r) ∧ Below w.heap.size w w' := by
  subst hr hk; exact joined_any A c l w hl hj hs hS
theorem rlist_of (A : Option Addr) (c k : Nat) (l : List ByteArray) (hk : l.length = k) (r : ByteArray) (hr : Dg.listB l = r) (w : World) (hl : l.length ≤ 1048576) (hj : (Dg.joinedL l).length ≤ 1099511627776) (hs : ∀ s ∈ l, s.size ≤ 1048576) (hS : Strs w w.heap.size A l) :
    Calls Tryd.prog 85 #[.slice A k c] w fun e w' => e = .returned (.string r) ∧ Below w.heap.size w w' := by
  subst hr hk; exact rlist_any A c l w hl hj hs hS
theorem same_of (A A' : Option Addr) (c c' : Nat) (l m : List ByteArray) (k k' : Nat) (hk : l.length = k) (hk' : m.length = k') (r : Bool) (hr : Dg.same l m = r) (w : World) (hl : k ≤ 9223372036854775807) (hl' : k' ≤ 9223372036854775807) (hS : Strs w w.heap.size A l) (hS' : Strs w w.heap.size A' m) :
    Calls Tryd.prog 23 #[.slice A k c, .slice A' k' c'] w fun e w' => e = .returned (.bool r) ∧ Below w.heap.size w w' := by
  subst hr hk hk'; exact same_any A A' c c' l m w hl hl' hS hS'
theorem sumB_joined (l : List ByteArray) : Dg.sumB (Dg.B (Dg.joinedL l)) = Dg.listB l := rfl
theorem ext_size' (a : ByteArray) (k : Nat) (h : k ≤ a.size) : (a.extract 0 k).size = k := by
  rw [← Dg.len_L, Dg.L_extract, List.length_drop, List.length_take, Dg.len_L]; omega
theorem mem_le {l : List ByteArray} {m n : Nat} (h : ∀ s ∈ l, s.size ≤ m) (hmn : m ≤ n) : ∀ s ∈ l, s.size ≤ n := fun s hs => Nat.le_trans (h s hs) hmn
theorem mem1 {a : ByteArray} {n : Nat} (ha : a.size ≤ n) : ∀ s ∈ [a], s.size ≤ n := fun s hs => by rw [List.mem_singleton.1 hs]; exact ha
theorem mem2 {a b : ByteArray} {n : Nat} (ha : a.size ≤ n) (hb : b.size ≤ n) : ∀ s ∈ [a, b], s.size ≤ n := fun s hs => by
  rcases List.mem_cons.1 hs with rfl | hs
  · exact ha
  · rw [List.mem_singleton.1 hs]; exact hb
theorem mem3 {a b c : ByteArray} {n : Nat} (ha : a.size ≤ n) (hb : b.size ≤ n) (hc : c.size ≤ n) : ∀ s ∈ [a, b, c], s.size ≤ n := fun s hs => by
  rcases List.mem_cons.1 hs with rfl | hs
  · exact ha
  · exact mem2 hb hc s hs
theorem joinedL_small (l : List ByteArray) (h1 : l.length ≤ 8) (h : ∀ s ∈ l, s.size ≤ 1073741824) : (Dg.joinedL l).length ≤ 1099511627776 := by
  have h2 := Dg.joinedL_len_le l 1073741824 h
  have : l.length * (1073741824 + 21) ≤ 8 * (1073741824 + 21) := Nat.mul_le_mul_right _ h1
  omega
theorem len1 (a : ByteArray) : [a].length ≤ 8 := by rw [List.length_singleton]; decide
theorem len2 (a b : ByteArray) : [a, b].length ≤ 8 := by rw [List.length_cons, List.length_singleton]; decide
theorem len3 (a b c : ByteArray) : [a, b, c].length ≤ 8 := by rw [List.length_cons, List.length_cons, List.length_singleton]; decide
/-- A list of at most 8 short texts, written out in a new block. -/
theorem list_new (l : List ByteArray) (cs : Array Value) (T : TypeId) (k c : Nat) (hk : l.length = k) (h8 : l.length ≤ 8) (h : ∀ s ∈ l, s.size ≤ 1073741824) (r : ByteArray) (hr : Dg.listB l = r) (w : World) (he : Env w) (hcs : cs.toList = l.map .string) (n : Nat) (hn : w.heap.size = n) :
    Calls Tryd.prog 43 #[.slice (some ⟨n, 0, none⟩) k c] (w.alloc (.cells cs T)) fun e w' => e = .returned (.string r) ∧ Below w.heap.size w w' := by
  subst hn
  exact (list_of _ 0 _ k l hk r hr _ (he.alloc _) (by omega) (joinedL_small _ h8 h) (mem_le h (by decide)) (Strs.new _ _ _ _ hcs)).mono fun e w' ⟨h1, h2⟩ => ⟨h1, bnextA (Below.refl _ _) h2⟩
theorem rlist_new (l : List ByteArray) (cs : Array Value) (T : TypeId) (k c : Nat) (hk : l.length = k) (h8 : l.length ≤ 8) (h : ∀ s ∈ l, s.size ≤ 1048576) (r : ByteArray) (hr : Dg.listB l = r) (w : World) (hcs : cs.toList = l.map .string) (n : Nat) (hn : w.heap.size = n) :
    Calls Tryd.prog 85 #[.slice (some ⟨n, 0, none⟩) k c] (w.alloc (.cells cs T)) fun e w' => e = .returned (.string r) ∧ Below w.heap.size w w' := by
  subst hn
  exact (rlist_of _ _ k l hk r hr _ (by omega) (joinedL_small _ h8 (mem_le h (by decide))) h (Strs.new _ _ _ _ hcs)).mono fun e w' ⟨h1, h2⟩ => ⟨h1, bnextA (Below.refl _ _) h2⟩
theorem joined_new (l : List ByteArray) (cs : Array Value) (T : TypeId) (k c : Nat) (hk : l.length = k) (h8 : l.length ≤ 8) (h : ∀ s ∈ l, s.size ≤ 1048576) (r : ByteArray) (hr : Dg.B (Dg.joinedL l) = r) (w : World) (hcs : cs.toList = l.map .string) (n : Nat) (hn : w.heap.size = n) :
    Calls Tryd.prog 65 #[.slice (some ⟨n, 0, none⟩) k c] (w.alloc (.cells cs T)) fun e w' => e = .returned (.string r) ∧ Below w.heap.size w w' := by
  subst hn
  exact (joined_of _ _ k l hk r hr _ (by omega) (joinedL_small _ h8 (mem_le h (by decide))) h (Strs.new _ _ _ _ hcs)).mono fun e w' ⟨h1, h2⟩ => ⟨h1, bnextA (Below.refl _ _) h2⟩
end Go.Proofs.YtmmpndijfbbnnaaDoor
