import Derived.Test.YtmmpndijfbbnnaaDoorT2
namespace Go.Proofs.YtmmpndijfbbnnaaDoor
open Go Go.RowKit
def digV (k i : Nat) : Value := .int .u8 (if i < k then ((Dg.hexDigit i).toNat : Int) else 0)
def digCells (k : Nat) : Array Value := #[digV k 0, digV k 1, digV k 2, digV k 3, digV k 4, digV k 5, digV k 6, digV k 7, digV k 8, digV k 9, digV k 10, digV k 11, digV k 12, digV k 13, digV k 14, digV k 15]
theorem lt16 {k : Nat} (h : k < 16) : k = 0 ∨ k = 1 ∨ k = 2 ∨ k = 3 ∨ k = 4 ∨ k = 5 ∨ k = 6 ∨ k = 7 ∨ k = 8 ∨ k = 9 ∨ k = 10 ∨ k = 11 ∨ k = 12 ∨ k = 13 ∨ k = 14 ∨ k = 15 := by omega
theorem digCells_set (k : Nat) (hk : k < 16) (v : Value) (hv : v = .int .u8 ((Dg.hexDigit k).toNat : Int)) : (digCells k).setIfInBounds k v = digCells (k + 1) := by
  subst hv
  rcases lt16 hk with rfl | rfl | rfl | rfl | rfl | rfl | rfl | rfl | rfl | rfl | rfl | rfl | rfl | rfl | rfl | rfl <;> rfl
theorem digCells_size (k : Nat) : (digCells k).size = 16 := rfl
theorem digCells_get (k i : Nat) (hi : i < 16) : (digCells k)[i]? = some (digV k i) := by
  rcases lt16 hi with rfl | rfl | rfl | rfl | rfl | rfl | rfl | rfl | rfl | rfl | rfl | rfl | rfl | rfl | rfl | rfl <;> rfl
theorem digCells_one : (digCells 16).all (·.oneCell') = true := by
  simp [digCells, digV, Value.oneCell']
theorem arr16u : Tryd.prog.underlying 114 = some (.array 16 5) := by kernel_rfl
theorem arr16i : (Tryd.prog.info? 114).map (·.size) = some (digCells 16).size := by kernel_rfl
set_option maxHeartbeats 400000 in
theorem digits_any (w : World) :
    Calls Tryd.prog 107 #[] w fun e w' => e = .returned (.agg (digCells 16)) ∧ Below w.heap.size w w' := by
  go_enter Tryd.func107, Tryd.ntmps107
  go_wp2
  go_loopw [2, 3] (fun _ i wr => ∃ k : Nat, k ≤ 16 ∧ i = .int .i64 k ∧ wr = (w.alloc (.cells (digCells 0) 114)).alloc (.cells (digCells k) 114)) (fun _ i _ => 16 - (intOf i).toNat)
  case atStart => exact ⟨0, by omega, rfl, rfl⟩
  case round =>
    obtain ⟨k, hk, rfl, rfl⟩ := hrel
    by_cases hlt : k < 16
    · have hcell := digCells_get k k hlt
      have hsz := digCells_size k
      have hset := digCells_set k hlt
      unfold digV at hcell
      rw [if_neg (by omega)] at hcell
      have HS := hide hset; clear hset
      by_cases h10 : k < 10
      · have hd := hide (Dg.hexDigit_lo k h10)
        go_wp2
        go_roundw
        case rel => exact ⟨k + 1, by omega, by go_num, by rw [HS.out _ (by rw [hd.out])]⟩
        case measure => simp [intOf]; omega
      · have hd := hide (Dg.hexDigit_hi k h10 hlt)
        go_wp2
        go_roundw
        case rel => exact ⟨k + 1, by omega, by go_num, by rw [HS.out _ (by rw [hd.out])]⟩
        case measure => simp [intOf]; omega
    · obtain rfl : k = 16 := by omega
      have hg1 := heap_alloc2_new w (.cells (digCells 0) 114) (.cells (digCells 16) 114)
      have hg0 := heap_alloc2_old w (.cells (digCells 0) 114) (.cells (digCells 16) 114)
      have hg0' := setRow_heap _ w.heap.size (digCells 0) (digCells 16) 114 (0, 0) hg0
      go_wp2_with (first | (refine wpList_load_row rfl 114 (.tmp 1) rfl (w.heap.size + 1) rfl 114 (digCells 16) (0, 0) (.array 16 5) hg1 arr16u rfl arr16i ?_) | (refine wpList_store_row rfl 114 (.tmp 0) (.tmp 20) rfl w.heap.size (digCells 16) rfl rfl 114 (digCells 0) hg0 arr16i rfl digCells_one ?_))
      refine bodyPost_ret (results_cell_row (P := Tryd.prog) Tryd.results107 _ _ w.heap.size 114 (digCells 16) (0, 0) (.array 16 5) rfl hg0' arr16u rfl arr16i) rfl ⟨rfl, ?_⟩
      refine ⟨rfl, rfl, rfl, by simp; omega, fun j hj => ?_⟩
      rw [setRow_other _ _ _ _ (by omega)]
      exact (Below.heap_alloc _ _ _ (by simp; omega)).trans (Below.heap_alloc _ _ _ hj)
end Go.Proofs.YtmmpndijfbbnnaaDoor
