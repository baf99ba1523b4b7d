import Derived.Test.YtmmpndijfbbnnaaDoorEnv
import Derived.Test.YtmmpndijfbbnnaaDoorT4
namespace Go.Proofs.YtmmpndijfbbnnaaDoor
open Go Go.RowKit
theorem joinedL_le (l : List ByteArray) (k : Nat) : (Dg.joinedL (l.take k)).length ≤ (Dg.joinedL l).length := by
  unfold Dg.joinedL
  conv => rhs; rw [← List.take_append_drop k l, List.map_append, Dg.joined_append, List.length_append]
  omega
def joinB (s : ByteArray) : ByteArray := decB s.size ++ ⟨#[58]⟩ ++ s
theorem joinedL_add (l : List ByteArray) (k : Nat) (hk : k < l.length) (hj : (Dg.joinedL l).length ≤ 1099511627776) : Lib.byteCells (Dg.joinedL (l.take (k + 1))) = Lib.byteCells (Dg.joinedL (l.take k)) ++ Lib.strCells (joinB l[k]) ∧ (Lib.byteCells (Dg.joinedL (l.take k))).length + (joinB l[k]).size ≤ 1099511627776 := by
  have hsz : (Dg.L l[k]).length = l[k].size := Dg.len_L _
  have hle := joinedL_le l (k + 1)
  have e := Dg.joinedL_take l k hk
  have hlen : l[k].size ≤ 9223372036854775807 := by
    rw [e, List.length_append, List.length_append, List.length_cons] at hle
    omega
  have e2 : (joinB l[k]).data.toList = Dg.dec (Dg.L l[k]).length ++ 58 :: Dg.L l[k] := by
    rw [hsz, ← L_decB _ hlen]
    simp [joinB, Dg.L, ByteArray.data_append]
  refine ⟨?_, ?_⟩
  · rw [e, Lib.byteCells_append, Lib.strCells_eq, e2]
  · rw [Lib.byteCells_length, ← Dg.len_L (joinB l[k])]
    unfold Dg.L at *
    rw [e2]
    rw [e, List.length_append] at hle
    omega
set_option maxHeartbeats 1000000 in
theorem list_any (A : Option Addr) (c : Nat) (l : List ByteArray) (w : World) (he : Env w) (hl : l.length ≤ 1099511627776) (hj : (Dg.joinedL l).length ≤ 1099511627776) (hs : ∀ s ∈ l, s.size ≤ 1099511627776) (hr : Strs w w.heap.size A l) :
    Calls Tryd.prog 43 #[.slice A l.length c] w fun e w' => e = .returned (.string (Dg.listB l)) ∧ Below w.heap.size w w' := by
  go_enter Tryd.func43, Tryd.ntmps43
  go_wp2
  go_loopw [5, 8] (fun _ i wr => ∃ k : Nat, k ≤ l.length ∧ i = .int .i64 k ∧ Below w.heap.size w wr ∧ Lib.IsBuilder 93 5 w.heap.size w.heap.size (Lib.byteCells (Dg.joinedL (l.take k))) wr) (fun _ i _ => l.length - (intOf i).toNat)
  case atStart => exact ⟨0, by omega, rfl, (Below.refl _ _).alloc (Nat.le_refl _) _, builder_new _ _ _⟩
  case round =>
    obtain ⟨k, hk, rfl, hb, hB⟩ := hrel
    have hew := he.next hb
    by_cases hlt : k < l.length
    · obtain ⟨b, off, rfl, hbl, hcell⟩ := (hr.below hb).get hlt
      have hsz := hs l[k] (List.getElem_mem hlt)
      have hjk := hide (joinedL_add l k hlt hj)
      have hd := decB_size l[k].size (by omega)
      generalize hx : l[k] = x at *
      have HX := hide hx; clear hx
      go_wp2_with fail
      refine (itoa_any _ x.size rfl (by omega) _ hew).mono ?_
      rintro e w1 ⟨rfl, hb1⟩
      have hB1 := builder_below hB hb1
      have hb2 := hb.trans (hb1.mono hb.size)
      have hz := hb2.size
      go_wp2_with fail
      refine (Tryd.Builder_WriteString _ _ _ (joinB x) _ hB1 (by have := hjk.out.2; omega) hz).mono ?_
      rintro e w2 ⟨rfl, hB2, hb3⟩
      rw [← hjk.out.1] at hB2
      have hb4 := hb2.trans hb3
      go_wp2
      go_roundw
      case rel => exact ⟨k + 1, by omega, by go_num, hb4, Or.inr hB2⟩
      case measure => simp [intOf]; omega
    · obtain rfl : k = l.length := by omega
      rw [List.take_length] at hB
      go_wp2_with fail
      refine (Tryd.Builder_String_any _ _ _ _ hB hb.size).mono ?_
      rintro e w1 ⟨rfl, hb1⟩
      have hb2 := hb.trans hb1
      go_wp2_with fail
      refine (sum_any (Dg.B (Dg.joinedL l)) (by rw [Dg.size_B]; omega) _).mono ?_
      rintro e w2 ⟨rfl, hb3⟩
      have hb4 := hb2.trans (hb3.mono hb2.size)
      go_wp2
      go_ret
      exact ⟨rfl, hb4⟩
end Go.Proofs.YtmmpndijfbbnnaaDoor
