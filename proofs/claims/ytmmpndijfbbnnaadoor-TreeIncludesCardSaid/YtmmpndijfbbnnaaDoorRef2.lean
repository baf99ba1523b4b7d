import Derived.Test.YtmmpndijfbbnnaaDoorRef1
namespace Go.Proofs.YtmmpndijfbbnnaaDoor
open Go Go.RowKit
theorem blkTo_ext (l : List UInt8) (a j : Nat) : Dg.blkTo (l.drop a) (j + 1) = Dg.blkTo (l.drop a) j * 256 + (l.getD (a + j) 0).toNat := by
  rw [Dg.blkTo, List.getD_eq_getElem?_getD, List.getD_eq_getElem?_getD, List.getElem?_drop]
theorem run_drop (k s : Nat) (l : List UInt8) (n : Nat) (h : 0 < k) : Dg.run k s (l.drop n) = Dg.run (k - 1) (Dg.mix (s ^^^ Dg.blk (l.drop n))) (l.drop (n + 8)) := by
  obtain ⟨k, rfl⟩ : ∃ j, k = j + 1 := ⟨k - 1, by omega⟩
  rw [Dg.run, List.drop_drop]
  rfl
theorem getD_B (s : ByteArray) (i : Nat) (h : i < s.size) : (Dg.L s).getD i 0 = s[i] := by
  rw [getB, List.getD_eq_getElem?_getD, List.getElem?_eq_getElem (by rw [Dg.len_L]; exact h)]; rfl
theorem getD_out (s : ByteArray) (i : Nat) (h : ¬ i < s.size) : (Dg.L s).getD i 0 = 0 := by
  rw [List.getD_eq_getElem?_getD, List.getElem?_eq_none (by rw [Dg.len_L]; omega)]; rfl
theorem mul_add_byte (n : Nat) (c : UInt8) (hn : n < 256 ^ 7) : IntKind.u64.wrap ((n : Int) * 256 + IntKind.u64.wrap (c.toNat : Int)) = ((n * 256 + c.toNat : Nat) : Int) := by
  have hc := c.toNat_lt
  rw [IntKind.wrap_u64, IntKind.wrap_u64]
  omega
theorem mul_out (n : Nat) : (n : Int) * 256 = ((n * 256 + (0 : UInt8).toNat : Nat) : Int) := by
  rw [show (0 : UInt8).toNat = 0 from rfl]
  omega
def hexTail (S m : Nat) : ByteArray := Dg.B ((Dg.hex S).drop (16 - m))
theorem hex_len (S : Nat) : (Dg.hex S).length = 16 := Dg.hexTo_len S 16
theorem hexTail_zero (S : Nat) : hexTail S 0 = ⟨#[]⟩ := by
  unfold hexTail Dg.B
  rw [List.drop_of_length_le (by rw [hex_len]; omega)]
theorem hexTail_all (S : Nat) : hexTail S 16 = Dg.B (Dg.hex S) := rfl
theorem hexTail_size (S m : Nat) (_h : m ≤ 16) : (hexTail S m).size ≤ 16 := by
  unfold hexTail
  rw [Dg.size_B, List.length_drop, hex_len]; omega
theorem div_succ (S m : Nat) : S / 16 ^ (m + 1) = S / 16 ^ m / 16 := by rw [Nat.pow_succ, Nat.div_div_eq_div_mul]
theorem hexTail_succ (S m : Nat) (h : m < 16) : hexTail S (m + 1) = Dg.B [Dg.hexDigit (S / 16 ^ m % 16)] ++ hexTail S m := by
  apply Dg.L_inj
  have hl : 16 - (m + 1) < (Dg.hex S).length := by rw [hex_len]; omega
  have e : (Dg.hex S)[16 - (m + 1)] = Dg.hexDigit (S / 16 ^ m % 16) := by
    have := Dg.hexTo_get S 16 (16 - (m + 1)) (by omega)
    rw [show 15 - (16 - (m + 1)) = m by omega] at this
    exact Option.some.inj ((List.getElem?_eq_getElem hl).symm.trans this)
  unfold hexTail
  rw [Dg.L_B, List.drop_eq_getElem_cons hl, e, show 16 - (m + 1) + 1 = 16 - m by omega]
  simp [Dg.L, Dg.B, ByteArray.data_append]
theorem hexConst (d : Nat) (h : d < 16) : ByteArray.extract ⟨#[48, 49, 50, 51, 52, 53, 54, 55, 56, 57, 97, 98, 99, 100, 101, 102]⟩ d (d + 1) = Dg.B [Dg.hexDigit d] := by
  apply Dg.L_inj
  rw [Dg.L_extract, Dg.L_B]
  rcases lt16 h with rfl | rfl | rfl | rfl | rfl | rfl | rfl | rfl | rfl | rfl | rfl | rfl | rfl | rfl | rfl | rfl <;> rfl
set_option maxHeartbeats 1000000 in
theorem rsum_any (s : ByteArray) (hs : s.size ≤ 4611686018427387904) (w : World) :
    Calls Tryd.prog 42 #[.string s] w fun e w' => e = .returned (.string (Dg.sumB s)) ∧ w = w' := by
  have h0 := hide (iv_xor s.size (by unfold Dg.M; omega))
  go_enter Tryd.func42, Tryd.ntmps42
  go_wp2
  go_loop [3, 4, 5, 6] (fun a f _ _ => ∃ k st : Nat, 8 * k ≤ s.size + 8 ∧ st < Dg.M ∧ f = .int .i64 ((8 * k : Nat) : Int) ∧ a = .int .u64 (st : Int) ∧ Hid (Dg.run (s.size / 8 + 1 - k) st ((Dg.L s).drop (8 * k)) = Dg.state (Dg.L s))) (fun _ f _ _ => s.size + 8 - (intOf f).toNat)
  case atStart => exact ⟨0, IV ^^^ s.size, by omega, Dg.xor_lt (by unfold IV Dg.M; omega) (by unfold Dg.M; omega), rfl, by rw [h0.out], by unfold Hid Dg.state; rw [Dg.len_L]; rfl⟩
  case round =>
    obtain ⟨k, st, hk, hst, rfl, rfl, HR⟩ := hrel
    by_cases hle : 8 * k ≤ s.size
    · go_wp2_with fail
      go_loop [5, 6] (fun b i => ∃ j : Nat, j ≤ 8 ∧ i = .int .i64 ((8 * k + j : Nat) : Int) ∧ b = .int .u64 (Dg.blkTo ((Dg.L s).drop (8 * k)) j : Int)) (fun _ i => 8 * k + 8 - (intOf i).toNat)
      case atStart => exact ⟨0, by omega, by go_num, rfl⟩
      case round =>
        obtain ⟨j, hj, rfl, rfl⟩ := hrel
        by_cases hlt : j < 8
        · have hb := Dg.blkTo_lt ((Dg.L s).drop (8 * k)) j
          have hb2 : 256 ^ j ≤ 256 ^ 7 := Nat.pow_le_pow_right (by omega) (by omega)
          have hbl : Dg.blkTo ((Dg.L s).drop (8 * k)) j < 256 ^ 7 := by omega
          clear hb hb2
          have hext := hide (blkTo_ext (Dg.L s) (8 * k) j)
          generalize Dg.blkTo ((Dg.L s).drop (8 * k)) j = B at *
          by_cases hin : 8 * k + j < s.size
          · have hg := hide (getD_B s _ hin)
            go_wp2
            go_round
            case rel => exact ⟨j + 1, by omega, by go_num, by rw [hext.out, hg.out, mul_add_byte _ _ hbl]⟩
            case measure => simp [intOf]; omega
          · have hg := hide (getD_out s _ hin)
            go_wp2
            go_round
            case rel => exact ⟨j + 1, by omega, by go_num, by rw [hext.out, hg.out, mul_out]⟩
            case measure => simp [intOf]; omega
        · obtain rfl : j = 8 := by omega
          have hbl := Dg.blk_lt ((Dg.L s).drop (8 * k))
          go_wp2_with fail
          refine (rmix_any _ (st ^^^ Dg.blk ((Dg.L s).drop (8 * k))) (xor_u64 _ _ hst hbl) (Dg.xor_lt hst hbl) _).mono ?_
          rintro e w' ⟨rfl, rfl⟩
          have hR2 : Hid (Dg.run (s.size / 8 + 1 - (k + 1)) (Dg.mix (st ^^^ Dg.blk ((Dg.L s).drop (8 * k)))) ((Dg.L s).drop (8 * (k + 1))) = Dg.state (Dg.L s)) := by
            unfold Hid
            rw [← HR.out, run_drop (s.size / 8 + 1 - k) st (Dg.L s) (8 * k) (by omega)]
            rfl
          have hm := Dg.mix_lt (st ^^^ Dg.blk ((Dg.L s).drop (8 * k)))
          generalize Dg.mix (st ^^^ Dg.blk ((Dg.L s).drop (8 * k))) = st' at *
          go_wp2
          go_round
          case rel => exact ⟨k + 1, st', by omega, hm, by go_num, rfl, hR2⟩
          case measure => simp [intOf]; omega
    · have HS : Hid (st = Dg.state (Dg.L s)) := by
        have := HR.out
        rw [show s.size / 8 + 1 - k = 0 by omega] at this
        exact this
      clear HR
      go_wp2_with fail
      go_loop [3, 7, 8] (fun a v i => ∃ m : Nat, m ≤ 16 ∧ i = .int .i64 m ∧ a = .int .u64 ((st / 16 ^ m : Nat) : Int) ∧ v = .string (hexTail st m)) (fun _ _ i => 16 - (intOf i).toNat)
      case atStart => exact ⟨0, by omega, rfl, by rw [Nat.pow_zero, Nat.div_one], (congrArg Value.string (hexTail_zero st)).symm⟩
      case round =>
        obtain ⟨m, hm, rfl, rfl, rfl⟩ := hrel
        by_cases hlt : m < 16
        · have hq : st / 16 ^ m < Dg.M := Nat.lt_of_le_of_lt (Nat.div_le_self _ _) hst
          have hnext := hide (hexTail_succ st m hlt)
          have hdiv := hide (div_succ st m)
          have hts := hexTail_size st m hm
          generalize hexTail st m = T at *
          generalize st / 16 ^ m = q at *
          unfold Dg.M at hq
          go_wp2
          go_round
          case rel => exact ⟨m + 1, by omega, by go_num, by rw [hdiv.out]; rfl, by rw [hnext.out, hexConst _ (Nat.mod_lt _ (by omega))]⟩
          case measure => simp [intOf]; omega
        · obtain rfl : m = 16 := by omega
          go_wp2
          go_ret
          exact ⟨ret_str (by rw [hexTail_all, HS.out]; rfl), rfl⟩
def DecRel (n q : Nat) (T : List UInt8) : Prop := (q = 0 → T = Lib.decDigits n) ∧ (0 < q → Lib.decDigits q ++ T = Lib.decDigits n)
theorem decRel_start (n : Nat) : DecRel n (n / 10) [UInt8.ofNat (48 + n % 10)] := by
  constructor
  · intro h
    have h1 : n < 10 := by omega
    rw [Lib.decDigits, dif_pos h1, Nat.mod_eq_of_lt h1]
  · intro h
    conv => rhs; rw [Lib.decDigits]
    rw [dif_neg (by omega)]
theorem decRel_next (n q : Nat) (T : List UInt8) (hq : 0 < q) (h : DecRel n q T) : DecRel n (q / 10) (UInt8.ofNat (48 + q % 10) :: T) := by
  have h2 := h.2 hq
  rw [Lib.decDigits] at h2
  constructor
  · intro h3
    have h1 : q < 10 := by omega
    rw [dif_pos h1] at h2
    rw [← h2, Nat.mod_eq_of_lt h1]; rfl
  · intro h3
    rw [dif_neg (by omega)] at h2
    rw [← h2, List.append_assoc]; rfl
theorem decDigits_len (n : Nat) (h : n < Dg.M) : (Lib.decDigits n).length ≤ 20 := by
  rw [← decF_eq 20 n (by unfold Dg.M at h; omega) (by omega)]
  exact Dg.decF_len 20 n
theorem decRel_len (n q : Nat) (T : List UInt8) (hn : n < Dg.M) (h : DecRel n q T) : T.length ≤ 20 := by
  have hl := decDigits_len n hn
  rcases Nat.eq_zero_or_pos q with h0 | h0
  · rw [h.1 h0]; exact hl
  · rw [← h.2 h0, List.length_append] at hl; omega
theorem lt10 {k : Nat} (h : k < 10) : k = 0 ∨ k = 1 ∨ k = 2 ∨ k = 3 ∨ k = 4 ∨ k = 5 ∨ k = 6 ∨ k = 7 ∨ k = 8 ∨ k = 9 := by omega
theorem decConst (d : Nat) (h : d < 10) : ByteArray.extract ⟨#[48, 49, 50, 51, 52, 53, 54, 55, 56, 57]⟩ d (d + 1) = Dg.B [UInt8.ofNat (48 + d)] := by
  apply Dg.L_inj
  rw [Dg.L_extract, Dg.L_B]
  rcases lt10 h with rfl | rfl | rfl | rfl | rfl | rfl | rfl | rfl | rfl | rfl <;> rfl
theorem B_cons (c : UInt8) (T : List UInt8) : Dg.B [c] ++ Dg.B T = Dg.B (c :: T) := by
  apply Dg.L_inj
  simp [Dg.L, Dg.B, ByteArray.data_append]
set_option maxHeartbeats 400000 in
theorem rdigits_any (k : Int) (n : Nat) (hk : k = n) (hn : n < Dg.M) (w : World) :
    Calls Tryd.prog 101 #[.int .u64 k] w fun e w' => e = .returned (.string (decB n)) ∧ w = w' := by
  subst hk
  have hn' : n < 18446744073709551616 := hn
  have hc := hide (decConst (n % 10) (Nat.mod_lt _ (by omega)))
  go_enter Tryd.func101, Tryd.ntmps101
  go_wp2
  go_loop [0, 3] (fun a v => ∃ (q : Nat) (T : List UInt8), q < 18446744073709551616 ∧ a = .int .u64 (q : Int) ∧ v = .string (Dg.B T) ∧ Hid (DecRel n q T)) (fun a _ => (intOf a).toNat)
  case atStart => exact ⟨n / 10, _, by omega, rfl, by rw [hc.out], decRel_start n⟩
  case round =>
    obtain ⟨q, T, hq, rfl, rfl, HR⟩ := hrel
    by_cases h0 : 0 < q
    · have hc2 := hide (decConst (q % 10) (Nat.mod_lt _ (by omega)))
      have hT : (Dg.B T).size ≤ 20 := by rw [Dg.size_B]; exact decRel_len n q T hn HR.out
      have hB := hide (B_cons (UInt8.ofNat (48 + q % 10)) T)
      have hnx := hide (decRel_next n q T h0 HR.out)
      generalize Dg.B T = TT at *
      go_wp2
      go_round
      case rel => exact ⟨q / 10, _, by omega, rfl, by rw [hc2.out, hB.out], hnx.out⟩
      case measure => simp [intOf]; omega
    · obtain rfl : q = 0 := by omega
      go_wp2
      go_ret
      exact ⟨ret_str (by rw [HR.out.1 rfl]; rfl), rfl⟩
set_option maxHeartbeats 400000 in
theorem decimal_any (n : Nat) (hn : n ≤ 9223372036854775807) (w : World) :
    Calls Tryd.prog 76 #[.int .i64 n] w fun e w' => e = .returned (.string (decB n)) ∧ w = w' := by
  go_enter Tryd.func76, Tryd.ntmps76
  go_wp2_with fail
  refine (rdigits_any _ n rfl (by unfold Dg.M; omega) _).mono ?_
  rintro e w' ⟨rfl, rfl⟩
  go_wp2
  go_ret
  exact ⟨rfl, rfl⟩
end Go.Proofs.YtmmpndijfbbnnaaDoor
