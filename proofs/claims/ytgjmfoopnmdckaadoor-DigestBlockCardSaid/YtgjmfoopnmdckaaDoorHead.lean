import Derived.Test.YtgjmfoopnmdckaaDoorRef3
import Derived.Test.YtgjmfoopnmdckaaDoorDgLaw
namespace Go.Proofs.YtgjmfoopnmdckaaDoor
open Go Go.RowKit
/-! The contracts once more, with an open result and an open number of elements. -/
theorem is_of (s : ByteArray) (r : Bool) (hr : Dg.isB s = r) (hs : s.size ≤ 4611686018427387904) (w : World) :
    Calls Tryd.prog 18 #[.string s] w fun e w' => e = .returned (.bool r) ∧ Below w.heap.size w w' := by
  subst hr; exact is_any s hs w
theorem sum_of (s r : ByteArray) (hr : Dg.sumB s = r) (hs : s.size ≤ 9223372036854775807) (w : World) :
    Calls Tryd.prog 12 #[.string s] w fun e w' => e = .returned (.string r) ∧ Below w.heap.size w w' := by
  subst hr; exact sum_any s hs w
theorem list_of (A : Option Addr) (n : Int) (c k : Nat) (l : List ByteArray) (hk : l.length = k) (r : ByteArray) (hr : Dg.listB l = r) (w : World) (he : Env w) (hl : l.length ≤ 1099511627776) (hj : (Dg.joinedL l).length ≤ 1099511627776) (hs : ∀ s ∈ l, s.size ≤ 1099511627776) (hS : Strs w w.heap.size A l) :
    Calls Tryd.prog 14 #[.slice A k c] w fun e w' => e = .returned (.string r) ∧ Below w.heap.size w w' := by
  subst hr hk; exact list_any A c l w he hl hj hs hS
theorem Strs.new (w : World) (l : List ByteArray) (cs : Array Value) (T : TypeId) (h : cs.toList = l.map .string) : Strs (w.alloc (.cells cs T)) (w.alloc (.cells cs T)).heap.size (some ⟨w.heap.size, 0, none⟩) l :=
  ⟨fun _ => ⟨w.heap.size, 0, rfl, by simp, fun j s hj => by
    rw [cell_of_row _ _ _ _ _ (0, 0) (heap_alloc_new w _), Nat.zero_add, ← Array.getElem?_toList, h, List.getElem?_map, hj]
    rfl⟩⟩
theorem tl_true {a b : ByteArray} (h : a = b) : (a.toList == b.toList) = true := by rw [str_ne]; exact decide_eq_true h
theorem tl_false {a b : ByteArray} (h : a ≠ b) : (a.toList == b.toList) = false := by rw [str_ne]; exact decide_eq_false h
theorem chain_of (s : ByteArray) (n : Int) (k : Nat) (hk : (min n 1000).toNat = k) (r : ByteArray) (hr : Dg.chainB s k = r) (hs : s.size ≤ 4611686018427387904) (w : World) :
    Calls Tryd.prog 16 #[.string s, .int .i64 n] w fun e w' => e = .returned (.string r) ∧ Below w.heap.size w w' := by
  subst hr hk; exact chain_any s hs n w
theorem bnext {w w1 w2 : World} (h : Below w.heap.size w w1) (h' : Below w1.heap.size w1 w2) : Below w.heap.size w w2 := h.trans (h'.mono h.size)
theorem bnextA {w w1 w2 : World} {o : Obj} (h : Below w.heap.size w w1) (h' : Below (w1.alloc o).heap.size (w1.alloc o) w2) : Below w.heap.size w w2 := bnext (h.alloc h.size o) h'
theorem Env.alloc {w : World} (h : Env w) (o : Obj) : Env (w.alloc o) := h.next ((Below.refl _ _).alloc (Nat.le_refl _) _)
set_option maxHeartbeats 1000000 in
theorem head_any (w : World) (he : Env w) :
    Calls Tryd.prog 10 #[] w fun e w' => e = .returned (.bool true) ∧ Below w.heap.size w w' := by
  have t1 : ((Dg.sumB ⟨#[]⟩).toList == (Dg.sumB ⟨#[0]⟩).toList) = false := tl_false (by decide +kernel)
  have t2 : ((Dg.sumB ⟨#[1]⟩).toList == (Dg.sumB ⟨#[]⟩).toList) = false := tl_false (by decide +kernel)
  go_enter Tryd.func10, Tryd.ntmps10
  go_wp2_with fail
  refine (is_of _ true (by decide +kernel) (by decide) _).mono ?_
  rintro e w1 ⟨rfl, hb⟩
  go_wp2_with fail
  refine (is_of _ false (by decide +kernel) (by decide) _).mono ?_
  rintro e w2 ⟨rfl, hb2⟩
  replace hb := bnext hb hb2; clear hb2
  go_wp2_with fail
  refine (is_of _ false (by decide +kernel) (by decide) _).mono ?_
  rintro e w3 ⟨rfl, hb3⟩
  replace hb := bnext hb hb3; clear hb3
  have hew := he.next hb
  go_wp2_with fail
  refine (list_of _ 2 _ 2 [⟨#[97]⟩, ⟨#[98, 99]⟩] rfl (Dg.sumB ⟨#[49, 58, 97, 50, 58, 98, 99]⟩) (by decide +kernel) _ (hew.alloc _) (by decide) (by decide +kernel) (by decide) (Strs.new _ _ _ _ rfl)).mono ?_
  rintro e w4 ⟨rfl, hb4⟩
  replace hb := bnextA hb hb4; clear hb4
  go_wp2_with fail
  refine (sum_of _ _ rfl (by decide) _).mono ?_
  rintro e w5 ⟨rfl, hb5⟩
  replace hb := bnext hb hb5; clear hb5
  go_wp2_with fail
  refine (chain_of _ _ 0 rfl ⟨#[120]⟩ (by decide +kernel) (by decide) _).mono ?_
  rintro e w6 ⟨rfl, hb6⟩
  replace hb := bnext hb hb6; clear hb6
  go_wp2_with fail
  refine (chain_of _ _ 2 rfl (Dg.sumB (Dg.sumB ⟨#[120]⟩)) (by decide +kernel) (by decide) _).mono ?_
  rintro e w7 ⟨rfl, hb7⟩
  replace hb := bnext hb hb7; clear hb7
  go_wp2_with fail
  refine (sum_of _ _ rfl (by decide) _).mono ?_
  rintro e w8 ⟨rfl, hb8⟩
  replace hb := bnext hb hb8; clear hb8
  go_wp2_with fail
  refine (sum_of _ _ rfl (by rw [Dg.sumB_size]; decide) _).mono ?_
  rintro e w9 ⟨rfl, hb9⟩
  replace hb := bnext hb hb9; clear hb9
  go_wp2_with fail
  refine (sum_of _ _ rfl (by decide) _).mono ?_
  rintro e w10 ⟨rfl, hb10⟩
  replace hb := bnext hb hb10; clear hb10
  go_wp2_with fail
  refine (sum_of _ _ rfl (by decide) _).mono ?_
  rintro e w11 ⟨rfl, hb11⟩
  replace hb := bnext hb hb11; clear hb11
  go_wp2_with fail
  refine (sum_of _ _ rfl (by decide) _).mono ?_
  rintro e w12 ⟨rfl, hb12⟩
  replace hb := bnext hb hb12; clear hb12
  go_wp2_with fail
  refine (sum_of _ _ rfl (by decide) _).mono ?_
  rintro e w13 ⟨rfl, hb13⟩
  replace hb := bnext hb hb13; clear hb13
  go_wp2
  go_ret
  exact ⟨rfl, hb⟩
end Go.Proofs.YtgjmfoopnmdckaaDoor
