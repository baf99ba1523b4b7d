import Derived.Test.YtmmpndijfbbnnaaDoorRef2
import Derived.Test.YtmmpndijfbbnnaaDoorApp
import Derived.Test.YtmmpndijfbbnnaaDoorList
namespace Go.Proofs.YtmmpndijfbbnnaaDoor
open Go Go.RowKit
theorem joinedL_step (l : List ByteArray) (k : Nat) (hk : k < l.length) (hs : l[k].size ≤ 9223372036854775807) : Dg.joinedL (l.take k) ++ Dg.L (decB l[k].size) ++ [58] ++ Dg.L l[k] = Dg.joinedL (l.take (k + 1)) := by
  rw [Dg.joinedL_take l k hk, L_decB _ hs, Dg.len_L]
  simp
theorem conv_own {P : Program} (src dst : TypeId) {w : World} {B : Nat} {A : Option Addr} {c : Nat} {l : List UInt8} (h : OwnB w B (.slice A l.length c) l) (hs : P.underlying src = some (.slice 5)) (hd : P.underlying dst = some .string) (he : P.underlying 5 = some (.int .u8) := by kernel_rfl) :
    (convert src dst (.slice A l.length c)).run P w = .ok (.string (Dg.B l)) w := by
  rcases h.2 with ⟨hv, h0⟩ | ⟨g, cap, cur, hv, _⟩
  · obtain rfl : l = [] := List.eq_nil_of_length_eq_zero h0
    injection hv with hA hn hc
    subst hA hc
    rw [run_convert_bytes_string (P := P) w src dst 5 none _ 0 hs he hd]
    simp [Conv.bytesToString]
    rfl
  · injection hv with hA hn hc
    subst hA hc
    have hcells := h.cells (g := g) rfl
    refine run_convert_bytes_back (P := P) w src dst 5 ⟨g, 0, none⟩ _ l hs he hd fun j hj => ?_
    refine hcells j _ ?_
    unfold Lib.byteCells
    rw [List.getElem?_map, List.getElem?_eq_getElem hj]
    rfl
set_option maxHeartbeats 1000000 in
theorem joined_any (A : Option Addr) (c : Nat) (l : List ByteArray) (w : World) (hl : l.length ≤ 1048576) (hj : (Dg.joinedL l).length ≤ 1099511627776) (hs : ∀ s ∈ l, s.size ≤ 1048576) (hr : Strs w w.heap.size A l) :
    Calls Tryd.prog 65 #[.slice A l.length c] w fun e w' => e = .returned (.string (Dg.B (Dg.joinedL l))) ∧ Below w.heap.size w w' := by
  obtain ⟨ib, ib1, ib2, ib3, ib4⟩ := info_parts byteInfo
  go_enter Tryd.func65, Tryd.ntmps65
  go_wp2
  go_loop [3, 4] (fun n i => ∃ k m : Nat, k ≤ l.length ∧ i = .int .i64 k ∧ n = .int .i64 m ∧ m ≤ k * 1048600) (fun _ i => l.length - (intOf i).toNat)
  case atStart => exact ⟨0, 0, by omega, rfl, rfl, by omega⟩
  case round =>
    obtain ⟨k, m, hk, rfl, rfl, hm⟩ := hrel
    by_cases hlt : k < l.length
    · obtain ⟨b, off, rfl, hbl, hcell⟩ := hr.get hlt
      have hsz := hs l[k] (List.getElem_mem hlt)
      generalize l[k] = x at *
      go_wp2
      go_round
      case rel => exact ⟨k + 1, m + (x.size + 21), by omega, by go_num, by go_num, by omega⟩
      case measure => simp [intOf]; omega
    · go_wp2_with (at_make; refine wpList_make_own _ rfl _ _ _ rfl w.heap.size 5 ib (.int .u8 0) 1 Tryd.underlying91 ib1 ib2 ib3 _ _ _ m rfl rfl rfl (by rw [ib4]; omega) (by unfold maxLen; omega) (Nat.le_refl _) ?_; intro w1 hown hg)
      have hb : Below w.heap.size w w1 := (Below.refl _ _).grown hg (Nat.le_refl _) (by simp)
      go_loopw [5, 6] (fun v i wr => ∃ k : Nat, k ≤ l.length ∧ i = .int .i64 k ∧ Below w.heap.size w wr ∧ OwnB wr w.heap.size v (Dg.joinedL (l.take k))) (fun _ i _ => l.length - (intOf i).toNat)
      case atStart => exact ⟨0, by omega, rfl, hb, hown⟩
      case round =>
        obtain ⟨k, hk, rfl, hb1, hO⟩ := hrel
        clear hown hg
        have hz1 := hb1.size
        by_cases hlt : k < l.length
        · obtain ⟨b, off, rfl, hbl, hcell⟩ := (hr.below hb1).get hlt
          have hsz := hs l[k] (List.getElem_mem hlt)
          have hst := hide (joinedL_step l k hlt (by omega))
          have hle := joinedL_le l (k + 1)
          rw [← hst.out, List.length_append, List.length_append, List.length_append, Dg.len_L, Dg.len_L] at hle
          have hle2 : (Dg.joinedL (l.take k)).length + (decB l[k].size).size + 1 + l[k].size ≤ 1099511627776 := Nat.le_trans hle hj
          clear hle
          have hd := decB_size l[k].size (by omega)
          generalize l[k] = x at *
          go_wp2_with fail
          refine (decimal_any _ (by omega) _).mono ?_
          rintro e w' ⟨rfl, rfl⟩
          go_wp2_with (first
            | (at_builtin; refine step_str _ rfl (.tmp 29) (.tmp 35) rfl w.heap.size _ _ rfl hO (decB x.size) rfl ?_ hz1 ?_; omega; intro v2 w2 hO2 hb2; have hcell2 : w2.cell? ⟨b, off + k, none⟩ = some (.string x) := (hb2.cell hbl).trans hcell; have hz2 := hb2.size)
            | (at_builtin; refine step_byte w2 rfl (.tmp 37) (.tmp 38) rfl 58 _ rfl w.heap.size _ _ rfl hO2 rfl ?_ ?_ ?_; rw [List.length_append, Dg.len_L]; omega; omega; intro v3 w3 hO3 hb3; have hcell3 : w3.cell? ⟨b, off + k, none⟩ = some (.string x) := (hb3.cell hbl).trans hcell2; have hz3 := hb3.size)
            | (at_builtin; refine step_str _ rfl (.tmp 40) (.tmp 44) rfl w.heap.size _ _ rfl hO3 x rfl ?_ ?_ ?_; rw [List.length_append, List.length_append, Dg.len_L]; simp; omega; omega; intro v4 w4 hO4 hb4; have hz4 := hb4.size)
            | fail)
          rw [hst.out] at hO4
          have hb5 := ((hb1.trans hb2).trans hb3).trans hb4
          go_roundw
          case rel => exact ⟨k + 1, by omega, by go_num, hb5, hO4⟩
          case measure => simp [intOf]; omega
        · obtain rfl : k = l.length := by omega
          rw [List.take_length] at hO
          obtain ⟨A', c', rfl⟩ := hO.form
          have hcv := conv_own (P := Tryd.prog) 91 9 hO (by kernel_rfl) (by kernel_rfl)
          go_wp2
          go_ret
          exact ⟨rfl, hb1⟩
set_option maxHeartbeats 400000 in
theorem rlist_any (A : Option Addr) (c : Nat) (l : List ByteArray) (w : World) (hl : l.length ≤ 1048576) (hj : (Dg.joinedL l).length ≤ 1099511627776) (hs : ∀ s ∈ l, s.size ≤ 1048576) (hr : Strs w w.heap.size A l) :
    Calls Tryd.prog 85 #[.slice A l.length c] w fun e w' => e = .returned (.string (Dg.listB l)) ∧ Below w.heap.size w w' := by
  go_enter Tryd.func85, Tryd.ntmps85
  go_wp2_with fail
  refine (joined_any A c l w hl hj hs hr).mono ?_
  rintro e w' ⟨rfl, hb⟩
  go_wp2_with fail
  refine (rsum_any _ (by rw [Dg.size_B]; omega) _).mono ?_
  rintro e w' ⟨rfl, rfl⟩
  go_wp2
  go_ret
  exact ⟨rfl, hb⟩
set_option maxHeartbeats 400000 in
theorem few_any (A : Option Addr) (c : Nat) (l : List ByteArray) (n : Int) (w : World) (hl : l.length ≤ 9223372036854775807) (hs : ∀ s ∈ l, s.size ≤ 9223372036854775807) (hr : Strs w w.heap.size A l) :
    Calls Tryd.prog 44 #[.slice A l.length c, .int .i64 n] w fun e w' => e = .returned (.bool (Dg.few l n)) ∧ w = w' := by
  go_enter Tryd.func44, Tryd.ntmps44
  go_wp2
  go_loop [5] (fun i => ∃ k : Nat, k ≤ l.length ∧ i = .int .i64 k ∧ Hid (∀ s ∈ l.take k, (s.size : Int) ≤ n)) (fun i => l.length - (intOf i).toNat)
  case atStart => exact ⟨0, by omega, rfl, by unfold Hid; simp⟩
  case round =>
    obtain ⟨k, hk, rfl, hall⟩ := hrel
    by_cases hlt : k < l.length
    · obtain ⟨b, off, rfl, hbl, hcell⟩ := hr.get hlt
      have hsz := hs l[k] (List.getElem_mem hlt)
      have hts := hide (List.take_succ_eq_append_getElem hlt)
      have hm := hide (List.getElem_mem hlt)
      generalize l[k] = x at *
      by_cases hx : (x.size : Int) ≤ n
      · go_wp2
        go_round
        case rel =>
          refine ⟨k + 1, by omega, by go_num, ?_⟩
          unfold Hid
          rw [hts.out]
          intro s hs'
          rcases List.mem_append.1 hs' with h | h
          · exact hall.out s h
          · obtain rfl : s = x := by simpa using h
            exact hx
        case measure => simp [intOf]; omega
      · go_wp2
        go_ret
        refine ⟨ret_bool (Dg.few_no l n ?_).symm, rfl⟩
        rintro ⟨_, h⟩
        have := h x hm.out
        omega
    · obtain rfl : k = l.length := by omega
      go_wp2
      go_ret
      refine ⟨ret_bool ?_, rfl⟩
      have h1 := hall.out
      rw [List.take_length] at h1
      by_cases h30 : l.length ≤ 30
      · rw [(Dg.few_iff l n).2 ⟨h30, h1⟩, decide_eq_true_iff]; omega
      · rw [Dg.few_no l n (fun h => h30 h.1), decide_eq_false_iff_not]; omega
theorem below_drewN {B : Nat} {a w : World} (h : Below B a w) (n : Nat) : Below B a (w.drewN n) := ⟨h.os, h.tape, h.output, h.size, h.block⟩
theorem str_ne (a b : ByteArray) : (a.toList == b.toList) = decide (a = b) := by
  rw [toList_L, toList_L, Bool.eq_iff_iff, beq_iff_eq, decide_eq_true_iff]
  exact ⟨Dg.L_inj, fun h => by rw [h]⟩
set_option maxHeartbeats 400000 in
theorem same_any (A A' : Option Addr) (c c' : Nat) (l m : List ByteArray) (w : World) (hl : l.length ≤ 9223372036854775807) (_hl' : m.length ≤ 9223372036854775807) (hr : Strs w w.heap.size A l) (hr' : Strs w w.heap.size A' m) :
    Calls Tryd.prog 23 #[.slice A l.length c, .slice A' m.length c'] w fun e w' => e = .returned (.bool (Dg.same l m)) ∧ Below w.heap.size w w' := by
  by_cases hlen : l.length = m.length
  · have hne : ((l.length : Int) != (m.length : Int)) = false := by rw [bne_eq_false_iff_eq]; omega
    go_enter Tryd.func23, Tryd.ntmps23
    go_wp2
    go_loopw [5] (fun i wr => ∃ k : Nat, k ≤ l.length ∧ i = .int .i64 k ∧ Below w.heap.size w wr ∧ Hid (l.take k = m.take k)) (fun i _ => l.length - (intOf i).toNat)
    case atStart => exact ⟨0, by omega, rfl, Below.refl _ _, rfl⟩
    case round =>
      obtain ⟨k, hk, rfl, hb, hall⟩ := hrel
      by_cases hlt : k < l.length
      · have hlt' : k < m.length := by omega
        obtain ⟨b, off, rfl, hbl, hcell⟩ := (hr.below hb).get hlt
        obtain ⟨b', off', rfl, hbl', hcell'⟩ := (hr'.below hb).get hlt'
        have hts := hide (List.take_succ_eq_append_getElem hlt)
        have hts' := hide (List.take_succ_eq_append_getElem hlt')
        have hg := hide (List.getElem?_eq_getElem hlt)
        have hg' := hide (List.getElem?_eq_getElem hlt')
        generalize l[k] = x at *
        generalize m[k] = y at *
        by_cases hxy : x = y
        · have ht : (x.toList == y.toList) = true := by rw [str_ne]; exact decide_eq_true hxy
          have HXY := hide hxy; clear hxy
          go_wp2
          go_quiet (fail)
          go_wp2
          go_roundw
          case rel => exact ⟨k + 1, by omega, by go_num, below_drewN hb _, by unfold Hid; rw [hts.out, hts'.out, hall.out, HXY.out]⟩
          case measure => simp [intOf]; omega
        · have ht : (x.toList == y.toList) = false := by rw [str_ne]; exact decide_eq_false hxy
          have HXY := hide hxy; clear hxy
          go_wp2
          go_quiet (fail)
          go_wp2
          go_ret
          refine ⟨ret_bool (Dg.same_no _ _ ?_).symm, below_drewN hb _⟩
          intro h
          have h1 := hg.out
          rw [h, hg'.out] at h1
          exact HXY.out (Option.some.inj h1).symm
      · obtain rfl : k = l.length := by omega
        have h1 := hall.out
        rw [List.take_length, List.take_of_length_le (by omega)] at h1
        go_wp2
        go_ret
        exact ⟨ret_bool ((Dg.same_iff _ _).2 h1).symm, hb⟩
  · have hne : ((l.length : Int) != (m.length : Int)) = true := by rw [bne_iff_ne]; omega
    go_enter Tryd.func23, Tryd.ntmps23
    go_wp2
    go_ret
    exact ⟨ret_bool (Dg.same_no l m (fun h => hlen (by rw [h]))).symm, Below.refl _ _⟩
end Go.Proofs.YtmmpndijfbbnnaaDoor
