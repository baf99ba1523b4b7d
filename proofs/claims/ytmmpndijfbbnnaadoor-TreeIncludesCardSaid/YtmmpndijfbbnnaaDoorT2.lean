import Derived.Test.YtmmpndijfbbnnaaDoorProg
import Derived.Test.YtmmpndijfbbnnaaDoorKit
import Derived.Test.YtmmpndijfbbnnaaDoorDg
import Derived.Test.YtmmpndijfbbnnaaDoorShelf
namespace Go.Proofs.YtmmpndijfbbnnaaDoor
open Go Go.RowKit
theorem len_toList (s : ByteArray) : s.data.toList.length = s.size := Array.length_toList
/-- Eight bytes: those of a string, then zeros. -/
def pad8 (s : ByteArray) : Array Value := ((List.range 8).map fun i => Value.int .u8 ((s.data.toList.getD i 0).toNat : Int)).toArray
theorem pad8_size (s : ByteArray) : (pad8 s).size = 8 := by simp only [pad8, List.size_toArray, List.length_map, List.length_range]
theorem pad8_get (s : ByteArray) (i : Nat) (h : i < 8) : (pad8 s)[i]? = some (.int .u8 ((s.data.toList.getD i 0).toNat : Int)) := by
  simp only [pad8, List.getElem?_toArray, List.getElem?_map, List.getElem?_range h, Option.map_some]
theorem pad8_eq (s : ByteArray) (h : s.size ≤ 8) (z : List Value) (hz : z = List.replicate 8 (.int .u8 0)) :
    (s.data.toList.map (fun b => Value.int .u8 (b.toNat : Int)) ++ z.drop s.size).toArray = pad8 s := by
  unfold pad8
  congr 1
  have hl := len_toList s
  apply List.ext_getElem?
  intro i
  rw [List.getElem?_append, List.length_map, hl, List.getElem?_map, List.getElem?_map]
  by_cases h1 : i < s.size
  · rw [if_pos h1, List.getElem?_range (by omega), List.getElem?_eq_getElem (by omega)]
    simp only [Option.map_some]
    rw [List.getD_eq_getElem?_getD, List.getElem?_eq_getElem (by omega)]
    rfl
  · rw [if_neg h1, List.getElem?_drop, show s.size + (i - s.size) = i by omega, hz]
    by_cases h2 : i < 8
    · rw [List.getElem?_replicate, if_pos h2, List.getElem?_range h2]
      simp only [Option.map_some]
      rw [List.getD_eq_getElem?_getD, List.getElem?_eq_none (by omega)]
      rfl
    · rw [List.getElem?_replicate, if_neg h2, List.getElem?_eq_none (by rw [List.length_range]; omega)]
      rfl
theorem setRow_new (w : World) (A C : Array Value) (T : TypeId) : (w.alloc (.cells A T)).setRow w.heap.size C = w.alloc (.cells C T) := by
  unfold World.setRow World.alloc
  congr 1
  apply Array.ext
  · simp
  · intro k h1 h2
    simp only [Array.getElem_modify, Array.getElem_push]
    by_cases hk : w.heap.size = k
    · subst hk; simp
    · have hlt : k < w.heap.size := by simp at h1; omega
      simp [hk, hlt]
def zero8 : Array Value := #[.int .u8 0, .int .u8 0, .int .u8 0, .int .u8 0, .int .u8 0, .int .u8 0, .int .u8 0, .int .u8 0]
theorem run_copy8 {P : Program} (dT sT ty elem T : TypeId) (s : ByteArray) (h : s.size ≤ 8) (hu : P.underlying dT = some (.slice elem)) (hs : ((P.info? elem).map (·.size)) = some 1) (w : World) :
    (Builtin.copy_ #[dT, sT] ty #[.slice (some ⟨w.heap.size, 0, none⟩) 8 8, .string s]).run P (w.alloc (.cells zero8 T)) = .ok (goInt s.size) (w.alloc (.cells (pad8 s) T)) := by
  have hl : (s.data.toList.map (fun b => Value.int .u8 (b.toNat : Int))).length = s.size := by rw [List.length_map, len_toList]
  have hst := run_storeCells_at P w.heap.size 0 T (s.data.toList.map (fun b => Value.int .u8 (b.toNat : Int))) 0 zero8
    (w.alloc (.cells zero8 T)) (heap_alloc_new w _) (by rw [hl]; exact Nat.le_trans (by omega) (show 8 ≤ zero8.size from Nat.le_refl _)) (by
      intro v hv
      simp only [List.mem_map] at hv
      obtain ⟨b, _, rfl⟩ := hv
      rfl)
  rw [hl, setRow_new] at hst
  have e0 : zero8.toList.take (0 + 0) ++ s.data.toList.map (fun b => Value.int .u8 (b.toNat : Int)) ++ zero8.toList.drop (0 + 0 + s.size) = s.data.toList.map (fun b => Value.int .u8 (b.toNat : Int)) ++ zero8.toList.drop s.size := by
    simp only [Nat.add_zero, List.take_zero, List.nil_append, Nat.zero_add]
  rw [e0, pad8_eq s h zero8.toList rfl] at hst
  have e1 : ((s.extract 0 s.size).data.map fun b => Value.int .u8 (b.toNat : Int)).toList = s.data.toList.map (fun b => Value.int .u8 (b.toNat : Int)) := by
    rw [Array.toList_map]
    congr 2
    rw [ByteArray.data_extract]
    exact Array.extract_size
  cases hq : P.info? elem with
  | none => simp [hq] at hs
  | some i =>
    have hi : i.size = 1 := by simpa [hq] using hs
    have hmin : Nat.min s.size 8 = s.size := Nat.min_eq_left h
    obtain ⟨A, hA⟩ : ∃ A, A = (s.extract 0 s.size).data.map (fun b => Value.int .u8 (b.toNat : Int)) := ⟨_, rfl⟩
    have hst' : (storeCells ⟨w.heap.size, 0, none⟩ A.toList 0).run P (w.alloc (.cells zero8 T)) = .ok () (w.alloc (.cells (pad8 s) T)) := by rw [hA, e1]; exact hst
    have hfc : Builtin.firstCells 1 s.size (.string s) = pure A := by rw [hA]; rfl
    simp [Builtin.copy_, run_underlying hu, Builtin.lenOf, sizeOf, typeInfo, hq, hi, hmin, hfc, hst']
theorem or_byte (n c : Nat) (hc : c < 256) : n * 256 ||| c = n * 256 + c := by
  have := Nat.two_pow_add_eq_or_of_lt (i := 8) (b := c) (by omega) n
  rw [Nat.mul_comm, ← this]
theorem blk_step (n : Nat) (c : UInt8) (hn : n < 256 ^ 7) : bits .or .u64 ((n : Int) * 256) (IntKind.u64.wrap (c.toNat : Int)) = ((n * 256 + c.toNat : Nat) : Int) := by
  have hc : c.toNat < 256 := c.toNat_lt
  have e1 : IntKind.u64.wrap (c.toNat : Int) = ((c.toNat : Nat) : Int) := by rw [IntKind.wrap_u64]; omega
  have e2 : ((n : Int) * 256) = ((n * 256 : Nat) : Int) := by omega
  rw [e1, e2, u64_or_nat _ _ (by omega) (by omega), or_byte _ _ hc]
theorem xor_u64 (a b : Nat) (ha : a < Dg.M) (hb : b < Dg.M) : bits .xor .u64 (a : Int) (b : Int) = ((a ^^^ b : Nat) : Int) := u64_xor_nat a b ha hb
theorem shr_int (a k : Nat) : ((a : Int) / ((2 ^ k : Nat) : Int)) = ((a >>> k : Nat) : Int) := by rw [Nat.shiftRight_eq_div_pow]; rfl
def mulM (x y : Nat) : Nat := x * y % Dg.M
def mulH (x y : Nat) : Nat := x * y / Dg.M
theorem mulM_lt (x y : Nat) : mulM x y < Dg.M := Nat.mod_lt _ Dg.M_pos
theorem xs_31 (a : Nat) (ha : a < Dg.M) : bits .xor .u64 (a : Int) ((a : Int) / 2147483648) = ((a ^^^ (a >>> 31) : Nat) : Int) := by
  rw [← xor_u64 _ _ ha (Dg.shr_lt ha), ← shr_int]; rfl
theorem xs_30 (a : Nat) (ha : a < Dg.M) : bits .xor .u64 (a : Int) ((a : Int) / 1073741824) = ((a ^^^ (a >>> 30) : Nat) : Int) := by
  rw [← xor_u64 _ _ ha (Dg.shr_lt ha), ← shr_int]; rfl
theorem mul_any (x : Nat) (k : Int) (y : Nat) (hk : k = y) (hx : x < Dg.M) (hy : y < Dg.M) (w : World) :
    Calls Tryd.prog 116 #[.int .u64 x, .int .u64 k] w fun e w' => e = .returned (.tuple #[.int .u64 (mulH x y), .int .u64 (mulM x y)]) ∧ w = w' := by
  subst hk
  refine (Tryd.bits_Mul64 x y hx hy w).mono ?_
  rintro e w' ⟨rfl, rfl⟩
  exact ⟨rfl, rfl⟩
set_option maxHeartbeats 400000 in
theorem mix_any (k : Int) (x : Nat) (hk : k = x) (hx : x < Dg.M) (w : World) :
    Calls Tryd.prog 106 #[.int .u64 k] w fun e w' => e = .returned (.int .u64 (Dg.mix x)) ∧ w = w' := by
  subst hk
  go_enter Tryd.func106, Tryd.ntmps106
  go_wp2_with fail
  refine (mul_any _ _ 6364136223846793005 rfl hx (by unfold Dg.M; omega) _).mono ?_
  rintro e w' ⟨rfl, rfl⟩
  have h1 := mulM_lt x 6364136223846793005
  generalize hm : mulM x 6364136223846793005 = m at *
  have HM := hide hm; clear hm
  go_wp2_with fail
  rw [xs_31 m h1]
  refine (mul_any _ _ 3202034522624059733 rfl (Dg.xor_lt h1 (Dg.shr_lt h1)) (by unfold Dg.M; omega) _).mono ?_
  rintro e w' ⟨rfl, rfl⟩
  have h2 := mulM_lt (m ^^^ (m >>> 31)) 3202034522624059733
  generalize hm2 : mulM (m ^^^ (m >>> 31)) 3202034522624059733 = m2 at *
  have HM2 := hide hm2; clear hm2
  go_wp2
  go_ret
  refine ⟨ret_int ?_, rfl⟩
  rw [xs_30 m2 h2, ← HM2.out, ← HM.out]
  rfl
set_option maxHeartbeats 400000 in
theorem take_any (s : ByteArray) (hs : s.size ≤ 8) (x : Nat) (hx : x < Dg.M) (b : Nat) (w : World) (hb : b < w.heap.size) (hc : w.cell? ⟨b, 0, none⟩ = some (.int .u64 x)) (hf : w.frozen? ⟨b, 0, none⟩ = false) :
    Calls Tryd.prog 105 #[.string s, .pointer (some ⟨b, 0, none⟩)] w fun e w' => e = .returned (.tuple #[]) ∧ ∃ o, w' = (w.setCell ⟨b, 0, none⟩ (.int .u64 (Dg.mix (x ^^^ Dg.blk (Dg.L s))))).alloc o := by
  have hcp := run_copy8 (P := Tryd.prog) 91 9 3 5 112 s hs (by kernel_rfl) (by kernel_rfl) w
  unfold zero8 at hcp
  go_enter Tryd.func105, Tryd.ntmps105
  go_wp2_with fail
  clear hcp
  go_loop [4, 5, 9] (fun n _ i => ∃ k : Nat, k ≤ 8 ∧ i = .int .i64 k ∧ n = .int .u64 (Dg.blkTo s.data.toList k)) (fun _ _ i => 8 - (intOf i).toNat)
  case atStart => exact ⟨0, by omega, rfl, rfl⟩
  case round =>
    obtain ⟨k, hk, rfl, rfl⟩ := hrel
    by_cases hlt : k < 8
    · have hcell := pad8_get s k hlt
      have hb1 : Dg.blkTo s.data.toList k < 256 ^ 7 := Nat.lt_of_lt_of_le (Dg.blkTo_lt _ k) (Nat.pow_le_pow_right (by omega) (by omega))
      have hb2 := (s.data.toList.getD k 0).toNat_lt
      go_wp2
      go_round
      case rel =>
        refine ⟨k + 1, by omega, by go_num, ?_⟩
        have hst := blk_step (Dg.blkTo s.data.toList k) (s.data.toList.getD k 0) hb1
        rw [show s.data[k]?.getD 0 = s.data.toList.getD k 0 by simp [List.getD_eq_getElem?_getD], hst]
        rfl
      case measure => simp [intOf]; omega
    · obtain rfl : k = 8 := by omega
      have hbl := Dg.blk_lt s.data.toList
      go_wp2_with fail
      refine (mix_any _ (x ^^^ Dg.blk s.data.toList) (xor_u64 _ _ hx hbl) (Dg.xor_lt hx hbl) _).mono ?_
      rintro e w' ⟨rfl, rfl⟩
      go_wp2
      go_end0
      exact ⟨rfl, _, rfl⟩
end Go.Proofs.YtmmpndijfbbnnaaDoor
