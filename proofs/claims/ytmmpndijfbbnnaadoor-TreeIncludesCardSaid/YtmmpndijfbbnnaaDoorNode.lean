/- half, node, Root of package tree and of the reference: one walk each. -/
import Derived.Test.YtmmpndijfbbnnaaDoorTree
import Derived.Test.YtmmpndijfbbnnaaDoorForms
import Derived.Lib.QuietBelow
import Derived.Laws.Slices
namespace Go.Proofs.YtmmpndijfbbnnaaDoor
open Go Go.RowKit Go.Sort
set_option maxHeartbeats 400000 in
theorem half_any (n : Nat) (hn : n ≤ 1152921504606846976) (w : World) :
    Calls Tryd.prog 45 #[.int .i64 n] w fun e w' => e = .returned (.int .i64 (Dg.half n : Nat)) ∧ w = w' := by
  go_enter Tryd.func45, Tryd.ntmps45
  go_wp2
  go_loop [3] (fun v => ∃ k f : Nat, 1 ≤ k ∧ k ≤ n + 1 ∧ n ≤ k + f ∧ v = .int .i64 k ∧ Dg.halfF f k n = Dg.half n) (fun v => n - (intOf v).toNat)
  case atStart => exact ⟨1, n, by omega, by omega, by omega, rfl, rfl⟩
  case round =>
    obtain ⟨k, f, h1, h2, h3, rfl, hf⟩ := hrel
    by_cases hlt : 2 * k < n
    · obtain ⟨f, rfl⟩ : ∃ g, f = g + 1 := ⟨f - 1, by omega⟩
      rw [Dg.halfF, if_pos hlt] at hf
      have h5 : (k : Int) * 2 < (n : Int) := by omega
      have hf' := hide hf; clear hf
      go_wp2
      go_round
      case rel => exact ⟨2 * k, f, by omega, by omega, by omega, by go_num, hf'.out⟩
      case measure => simp [intOf]; omega
    · have hf2 : k = Dg.half n := by
        cases f with
        | zero => exact hf
        | succ f => rw [Dg.halfF, if_neg hlt] at hf; exact hf
      clear hf
      have h5 : ¬ (k : Int) * 2 < (n : Int) := by omega
      go_wp2
      go_ret
      exact ⟨rfl, rfl⟩
set_option maxHeartbeats 400000 in
theorem rhalf_any (n : Nat) (hn : n ≤ 1152921504606846976) (w : World) :
    Calls Tryd.prog 52 #[.int .i64 n] w fun e w' => e = .returned (.int .i64 (Dg.half n : Nat)) ∧ w = w' := by
  go_enter Tryd.func52, Tryd.ntmps52
  go_wp2
  go_loop [3] (fun v => ∃ k f : Nat, 1 ≤ k ∧ k ≤ n + 1 ∧ n ≤ k + f ∧ v = .int .i64 k ∧ Dg.halfF f k n = Dg.half n) (fun v => n - (intOf v).toNat)
  case atStart => exact ⟨1, n, by omega, by omega, by omega, rfl, rfl⟩
  case round =>
    obtain ⟨k, f, h1, h2, h3, rfl, hf⟩ := hrel
    by_cases hlt : 2 * k < n
    · obtain ⟨f, rfl⟩ : ∃ g, f = g + 1 := ⟨f - 1, by omega⟩
      rw [Dg.halfF, if_pos hlt] at hf
      have h5 : 2 * (k : Int) < (n : Int) := by omega
      have hf' := hide hf; clear hf
      go_wp2
      go_round
      case rel => exact ⟨2 * k, f, by omega, by omega, by omega, by go_num, hf'.out⟩
      case measure => simp [intOf]; omega
    · have hf2 : k = Dg.half n := by
        cases f with
        | zero => exact hf
        | succ f => rw [Dg.halfF, if_neg hlt] at hf; exact hf
      clear hf
      have h5 : ¬ 2 * (k : Int) < (n : Int) := by omega
      go_wp2
      go_ret
      exact ⟨rfl, rfl⟩
/-- Where a slice's tail lies. -/
def offA (A : Option Addr) (k c : Nat) : Option Addr := if c = k then A else A.map (·.add k)
theorem addr_add0 (a : Addr) : a.add 0 = a := by unfold Addr.add; rw [if_pos rfl]
theorem Strs.take {w : World} {B : Nat} {A : Option Addr} {l : List ByteArray} (h : Strs w B A l) (k : Nat) : Strs w B A (l.take k) :=
  ⟨fun hl => by
    rw [List.length_take] at hl
    obtain ⟨b, off, e, hb, hc⟩ := h.at_ (by omega)
    refine ⟨b, off, e, hb, fun j s hj => hc j s ?_⟩
    rw [List.getElem?_take] at hj
    split at hj
    · exact hj
    · exact absurd hj (by simp)⟩
theorem addr_off (b off k : Nat) : Addr.add ⟨b, off, none⟩ k = ⟨b, off + k, none⟩ := by
  unfold Addr.add
  by_cases h : k = 0
  · rw [if_pos h, h, Nat.add_zero]
  · rw [if_neg h]
theorem Strs.drop {w : World} {B : Nat} {A : Option Addr} {l : List ByteArray} {c : Nat} (h : Strs w B A l) (hc : l.length ≤ c) (k : Nat) : Strs w B (offA A k c) (l.drop k) :=
  ⟨fun hl => by
    rw [List.length_drop] at hl
    obtain ⟨b, off, rfl, hb, hcell⟩ := h.at_ (by omega)
    refine ⟨b, off + k, ?_, hb, fun j s hj => ?_⟩
    · unfold offA
      rw [if_neg (by omega), Option.map_some, addr_off]
    · rw [List.getElem?_drop] at hj
      rw [Nat.add_assoc]
      exact hcell _ _ hj⟩
theorem elem_str : Tryd.prog.elem 22 = 9 := by kernel_rfl
theorem und_str : Tryd.prog.underlying 22 = some (.slice (Tryd.prog.elem 22)) := by rw [elem_str]; exact Tryd.underlying22
theorem slice_to (A : Option Addr) (n c k : Nat) (h : k ≤ c) (w : World) : (Instr.slice 22 (.slice A n c) none (some (.int .i64 (k : Int))) none).run Tryd.prog w = .ok (.slice A k c) w := by
  rw [run_slice_h w _ A n c und_str .i64 k (by omega) (by omega), elem_str, Tryd.sizeOf9]
  show Result.ok (sliced A 0 (k : Int).toNat c 1) w = _
  unfold sliced
  rw [Int.toNat_natCast, Nat.zero_mul, Nat.sub_zero, Nat.sub_zero]
  have : (if c = 0 then A else A.map (fun x => x.add 0)) = A := by
    split
    · rfl
    · cases A with
      | none => rfl
      | some a => rw [Option.map_some, addr_add0]
  rw [this]
theorem slice_from (A : Option Addr) (n c k : Nat) (h : k ≤ n) (w : World) : (Instr.slice 22 (.slice A n c) (some (.int .i64 (k : Int))) none none).run Tryd.prog w = .ok (.slice (offA A k c) (n - k) (c - k)) w := by
  rw [run_slice_l w _ A n c und_str .i64 k (by omega) (by omega), elem_str, Tryd.sizeOf9]
  show Result.ok (sliced A (k : Int).toNat n c 1) w = _
  unfold sliced offA
  rw [Int.toNat_natCast, Nat.mul_one]
set_option maxHeartbeats 400000 in
theorem node_any (a b : ByteArray) (ha : a.size ≤ 1073741824) (hb : b.size ≤ 1073741824) (w : World) (he : Env w) :
    Calls Tryd.prog 49 #[.string a, .string b] w fun e w' => e = .returned (.string (Dg.nodeB a b)) ∧ Below w.heap.size w w' := by
  go_enter Tryd.func49, Tryd.ntmps49
  have hm := hide (mem3 (a := Dg.sNode) (by decide) ha hb)
  go_wp2_with fail
  refine (list_new [Dg.sNode, a, b] _ _ 3 _ rfl (len3 _ _ _) hm.out (Dg.nodeB a b) rfl w he rfl _ rfl).mono ?_
  rintro e w1 ⟨rfl, hb1⟩
  go_wp2
  go_ret
  exact ⟨rfl, hb1⟩
set_option maxHeartbeats 400000 in
theorem rnode_any (a b : ByteArray) (ha : a.size ≤ 1048576) (hb : b.size ≤ 1048576) (w : World) :
    Calls Tryd.prog 53 #[.string a, .string b] w fun e w' => e = .returned (.string (Dg.nodeB a b)) ∧ Below w.heap.size w w' := by
  go_enter Tryd.func53, Tryd.ntmps53
  have hm := hide (mem3 (a := Dg.sNode) (by decide) ha hb)
  go_wp2_with fail
  refine (rlist_new [Dg.sNode, a, b] _ _ 3 _ rfl (len3 _ _ _) hm.out (Dg.nodeB a b) rfl w rfl _ rfl).mono ?_
  rintro e w1 ⟨rfl, hb1⟩
  go_wp2
  go_ret
  exact ⟨rfl, hb1⟩
theorem rleaf_any (a : ByteArray) (ha : a.size ≤ 1048576) (w : World) :
    Calls Tryd.prog 51 #[.string a] w fun e w' => e = .returned (.string (Dg.leafB a)) ∧ Below w.heap.size w w' := by
  go_enter Tryd.func51, Tryd.ntmps51
  have hm := hide (mem2 (a := Dg.sLeaf) (by decide) ha)
  go_wp2_with fail
  refine (rlist_new [Dg.sLeaf, a] _ _ 2 _ rfl (len2 _ _) hm.out (Dg.leafB a) rfl w rfl _ rfl).mono ?_
  rintro e w1 ⟨rfl, hb1⟩
  go_wp2
  go_ret
  exact ⟨rfl, hb1⟩
theorem rempty_any (w : World) :
    Calls Tryd.prog 50 #[] w fun e w' => e = .returned (.string Dg.emptyB) ∧ Below w.heap.size w w' := by
  go_enter Tryd.func50, Tryd.ntmps50
  go_wp2_with fail
  refine (rlist_new [Dg.sEmpty] _ _ 1 _ rfl (len1 _) (mem1 (by decide)) Dg.emptyB rfl w rfl _ rfl).mono ?_
  rintro e w1 ⟨rfl, hb1⟩
  go_wp2
  go_ret
  exact ⟨rfl, hb1⟩
end Go.Proofs.YtmmpndijfbbnnaaDoor
