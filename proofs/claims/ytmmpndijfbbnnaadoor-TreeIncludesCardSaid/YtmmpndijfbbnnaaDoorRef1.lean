import Derived.Test.YtmmpndijfbbnnaaDoorEnv
import Derived.Test.YtmmpndijfbbnnaaDoorT4
namespace Go.Proofs.YtmmpndijfbbnnaaDoor
open Go Go.RowKit
theorem wrap_mul (a c : Nat) (C : Int) (hC : C = c) : IntKind.u64.wrap ((a : Int) * C) = ((mulM a c : Nat) : Int) := by
  subst hC
  rw [IntKind.wrap_u64]
  unfold mulM Dg.M
  omega
set_option maxHeartbeats 400000 in
theorem rmix_any (k : Int) (x : Nat) (hk : k = x) (_hx : x < Dg.M) (w : World) :
    Calls Tryd.prog 80 #[.int .u64 k] w fun e w' => e = .returned (.int .u64 (Dg.mix x)) ∧ w = w' := by
  subst hk
  go_enter Tryd.func80, Tryd.ntmps80
  go_wp2
  go_ret
  refine ⟨ret_int ?_, rfl⟩
  rw [wrap_mul x 6364136223846793005 6364136223846793005 rfl, xs_31 _ (mulM_lt _ _), wrap_mul _ 3202034522624059733 3202034522624059733 rfl, xs_30 _ (mulM_lt _ _)]
  rfl
set_option maxHeartbeats 400000 in
theorem chain_any (s : ByteArray) (hs : s.size ≤ 4611686018427387904) (n : Int) (w : World) :
    Calls Tryd.prog 68 #[.string s, .int .i64 n] w fun e w' => e = .returned (.string (Dg.chainB s (min n 1000).toNat)) ∧ Below w.heap.size w w' := by
  have hN : max 0 (min n 1000) = ((min n 1000).toNat : Int) := by omega
  have hN2 : (min n 1000).toNat ≤ 1000 := by omega
  generalize (min n 1000).toNat = N at *
  go_enter Tryd.func68, Tryd.ntmps68
  go_wp2
  clear hN
  go_loopw [0, 8] (fun v i wr => ∃ k : Nat, k ≤ N ∧ i = .int .i64 k ∧ v = .string (Dg.chainB s k) ∧ Below w.heap.size w wr) (fun _ i _ => N - (intOf i).toNat)
  case atStart => exact ⟨0, by omega, rfl, by rw [Dg.chainB_zero], Below.refl _ _⟩
  case round =>
    obtain ⟨k, hk, rfl, rfl, hb⟩ := hrel
    have hz := Dg.chainB_le s k
    have hz2 := hb.size
    by_cases hlt : k < N
    · go_wp2_with fail
      refine (sum_any _ (by omega) _).mono ?_
      rintro e w' ⟨rfl, hb1⟩
      have hb2 := hb.trans (hb1.mono hz2)
      go_wp2
      go_roundw
      case rel => exact ⟨k + 1, by omega, by go_num, rfl, hb2⟩
      case measure => simp [intOf]; omega
    · obtain rfl : k = N := by omega
      go_wp2
      go_ret
      exact ⟨rfl, hb⟩
theorem toList_L (s : ByteArray) : s.toList = Dg.L s := ByteArray.toList_eq s
theorem hexes_all : ∀ n, n < 256 → Dg.hexes.contains (UInt8.ofNat n) = Dg.isDig (UInt8.ofNat n) := by decide +kernel
theorem hexes_isDig (c : UInt8) : Dg.hexes.contains c = Dg.isDig c := by
  have := hexes_all c.toNat c.toNat_lt
  rwa [UInt8.ofNat_toNat] at this
theorem dropWhile_nil {p : UInt8 → Bool} (l : List UInt8) : l.dropWhile p = [] ↔ ∀ x ∈ l, p x = true := by
  induction l with
  | nil => simp
  | cons a r ih =>
    rw [List.dropWhile_cons]
    by_cases h : p a = true
    · rw [if_pos h, ih]; simp [h]
    · rw [if_neg h]; simp [h]
theorem trim_empty (l : List UInt8) : (Lib.trimS l Dg.hexes).isEmpty = l.all Dg.isDig := by
  have hp : (fun c => Dg.hexes.contains c) = Dg.isDig := funext hexes_isDig
  unfold Lib.trimS Lib.trimLeftS Lib.trimRightS
  rw [show (fun x => Dg.hexes.contains x) = Dg.isDig from hp]
  rw [Bool.eq_iff_iff, List.isEmpty_iff, dropWhile_nil, List.all_eq_true]
  constructor
  · intro h x hx
    have hx' : x ∈ l.reverse.takeWhile Dg.isDig ++ l.reverse.dropWhile Dg.isDig := by rw [List.takeWhile_append_dropWhile]; exact List.mem_reverse.2 hx
    rcases List.mem_append.1 hx' with h1 | h1
    · have := List.all_takeWhile (p := Dg.isDig) (l := l.reverse)
      exact List.all_eq_true.1 this x h1
    · exact h x (List.mem_reverse.2 h1)
  · intro h x hx
    have h1 := List.mem_reverse.1 hx
    have h2 : x ∈ l.reverse := List.Sublist.mem h1 (List.dropWhile_sublist _)
    exact h x (List.mem_reverse.1 h2)
theorem trim_any (s : ByteArray) (hs : s.size ≤ 9223372036854775807) (w : World) :
    Calls Tryd.prog 70 #[.string s, .string ⟨#[48, 49, 50, 51, 52, 53, 54, 55, 56, 57, 97, 98, 99, 100, 101, 102]⟩] w fun e w' => e = .returned (.string (Dg.B (Lib.trimS (Dg.L s) Dg.hexes))) ∧ Below w.heap.size w w' :=
  Any.strings_Trim_laid Tryd.lays160 (by kernel_rfl) s ⟨#[48, 49, 50, 51, 52, 53, 54, 55, 56, 57, 97, 98, 99, 100, 101, 102]⟩ w hs (by decide) (ascii_of_all (by decide))
set_option maxHeartbeats 400000 in
theorem is_any (s : ByteArray) (_hs : s.size ≤ 4611686018427387904) (w : World) :
    Calls Tryd.prog 37 #[.string s] w fun e w' => e = .returned (.bool (Dg.isB s)) ∧ Below w.heap.size w w' := by
  by_cases h16 : s.size = 16
  · go_enter Tryd.func37, Tryd.ntmps37
    go_wp2_with fail
    refine (trim_any s (by omega) _).mono ?_
    rintro e w' ⟨rfl, hb⟩
    generalize hT : Dg.B (Lib.trimS (Dg.L s) Dg.hexes) = T at *
    have HT := hide hT; clear hT
    go_wp2
    go_ret
    refine ⟨ret_bool ?_, hb⟩
    rw [toList_L, ← HT.out, Dg.L_B, trim_empty, Dg.isB, Dg.is, Dg.len_L, h16]
    rfl
  · go_enter Tryd.func37, Tryd.ntmps37
    go_wp2
    go_ret
    refine ⟨ret_bool ?_, Below.refl _ _⟩
    have e : (s.size == 16) = false := by simpa using h16
    rw [Dg.isB, Dg.is, Dg.len_L, e, Bool.false_and]
set_option maxHeartbeats 400000 in
theorem digit_any (c : UInt8) (w : World) :
    Calls Tryd.prog 102 #[.int .u8 (c.toNat : Int)] w fun e w' => e = .returned (.int .i64 (Dg.digit c)) ∧ w = w' := by
  have hc := c.toNat_lt
  by_cases h1 : 48 ≤ c.toNat
  · by_cases h2 : c.toNat ≤ 57
    · go_enter Tryd.func102, Tryd.ntmps102
      go_wp2
      go_ret
      refine ⟨ret_int ?_, rfl⟩
      unfold Dg.digit
      (repeat' split) <;> omega
    · by_cases h3 : 97 ≤ c.toNat
      · by_cases h4 : c.toNat ≤ 102
        · go_enter Tryd.func102, Tryd.ntmps102
          go_wp2
          go_ret
          refine ⟨ret_int ?_, rfl⟩
          unfold Dg.digit
          (repeat' split) <;> omega
        · go_enter Tryd.func102, Tryd.ntmps102
          go_wp2
          go_ret
          refine ⟨ret_int ?_, rfl⟩
          unfold Dg.digit
          (repeat' split) <;> omega
      · go_enter Tryd.func102, Tryd.ntmps102
        go_wp2
        go_ret
        refine ⟨ret_int ?_, rfl⟩
        unfold Dg.digit
        (repeat' split) <;> omega
  · go_enter Tryd.func102, Tryd.ntmps102
    go_wp2
    go_ret
    refine ⟨ret_int ?_, rfl⟩
    unfold Dg.digit
    (repeat' split) <;> omega
theorem getB (s : ByteArray) (k : Nat) (h : k < s.size) : s[k] = (Dg.L s)[k]'(by rw [Dg.len_L]; exact h) := rfl
theorem take_all (s : ByteArray) (k : Nat) (h : k < s.size) : ((Dg.L s).take (k + 1)).all Dg.isDig = (((Dg.L s).take k).all Dg.isDig && Dg.isDig s[k]) := by
  rw [List.take_succ_eq_append_getElem (by rw [Dg.len_L]; exact h), List.all_append]
  simp [getB]
theorem not_all (s : ByteArray) (k : Nat) (h : k < s.size) (hd : Dg.isDig ((Dg.L s)[k]'(by rw [Dg.len_L]; exact h)) = false) : (Dg.L s).all Dg.isDig = false := by
  rw [List.all_eq_false]
  exact ⟨(Dg.L s)[k]'(by rw [Dg.len_L]; exact h), List.getElem_mem _, by rw [hd]; simp⟩
theorem is_take (s : ByteArray) (k : Nat) (h : s.size ≤ k ∨ 16 ≤ k ∧ k ≤ s.size) (hall : ((Dg.L s).take k).all Dg.isDig = true) : ((s.size : Int) == 16) = Dg.isB s := by
  rw [Dg.isB, Dg.is, Dg.len_L]
  by_cases h16 : s.size = 16
  · have e : (Dg.L s).take k = Dg.L s := List.take_of_length_le (by rw [Dg.len_L]; omega)
    rw [e] at hall
    rw [hall, h16]; rfl
  · have e1 : (s.size == 16) = false := by simpa using h16
    have e2 : ((s.size : Int) == 16) = false := by
      rw [beq_eq_false_iff_ne]; omega
    rw [e1, e2]; rfl
theorem isDig_iff (c : UInt8) : Dg.isDig c = true ↔ 48 ≤ c.toNat ∧ c.toNat ≤ 57 ∨ 97 ≤ c.toNat ∧ c.toNat ≤ 102 := by
  simp [Dg.isDig, UInt8.le_iff_toNat_le]
theorem digit_pos (c : UInt8) (h : Dg.isDig c = true) : 0 ≤ Dg.digit c := by
  have := (isDig_iff c).1 h
  unfold Dg.digit
  (repeat' split) <;> omega
theorem digit_neg (c : UInt8) (h : Dg.isDig c = false) : Dg.digit c < 0 := by
  have : ¬ (48 ≤ c.toNat ∧ c.toNat ≤ 57 ∨ 97 ≤ c.toNat ∧ c.toNat ≤ 102) := fun h' => by rw [(isDig_iff c).2 h'] at h; cases h
  unfold Dg.digit
  (repeat' split) <;> omega
set_option maxHeartbeats 400000 in
theorem ris_any (s : ByteArray) (hs : s.size ≤ 4611686018427387904) (w : World) :
    Calls Tryd.prog 89 #[.string s] w fun e w' => e = .returned (.bool (Dg.isB s)) ∧ w = w' := by
  go_enter Tryd.func89, Tryd.ntmps89
  go_wp2
  go_loop [3] (fun i => ∃ k : Nat, k ≤ s.size ∧ k ≤ 16 ∧ i = .int .i64 k ∧ ((Dg.L s).take k).all Dg.isDig = true) (fun i => 16 - (intOf i).toNat)
  case atStart => exact ⟨0, by omega, by omega, rfl, rfl⟩
  case round =>
    obtain ⟨k, hk, hk2, rfl, hall⟩ := hrel
    have HA := hide hall; clear hall
    by_cases hlt : k < s.size
    · by_cases hlt2 : k < 16
      · have hget := hide (getB s k hlt)
        go_wp2_with fail
        refine (digit_any _ _).mono ?_
        rintro e w' ⟨rfl, rfl⟩
        have ht := hide (take_all s k hlt)
        generalize s[k] = c at *
        by_cases hd : Dg.isDig c = true
        · have hn := digit_pos c hd
          have HD := hide hd; clear hd
          go_wp2
          go_round
          case rel => exact ⟨k + 1, by omega, by omega, by go_num, by rw [ht.out, HA.out, HD.out]; rfl⟩
          case measure => simp [intOf]; omega
        · have hd : Dg.isDig c = false := by simpa using hd
          have hn := digit_neg c hd
          have HD := hide hd; clear hd
          go_wp2
          go_ret
          refine ⟨ret_bool ?_, rfl⟩
          have h1 := not_all s k hlt
          rw [← hget.out] at h1
          rw [Dg.isB, Dg.is, h1 HD.out, Bool.and_false]
      · obtain rfl : k = 16 := by omega
        go_wp2
        go_ret
        exact ⟨ret_bool (is_take s 16 (by omega) HA.out), rfl⟩
    · obtain rfl : k = s.size := by omega
      go_wp2
      go_ret
      exact ⟨ret_bool (is_take s s.size (by omega) HA.out), rfl⟩
end Go.Proofs.YtmmpndijfbbnnaaDoor
