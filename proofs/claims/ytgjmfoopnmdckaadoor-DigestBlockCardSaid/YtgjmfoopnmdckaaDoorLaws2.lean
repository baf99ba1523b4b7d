import Derived.Test.YtgjmfoopnmdckaaDoorLaws1
import Derived.Lib.QuietBelow
import Derived.Deep.DeepCutAuto
namespace Go.Proofs.YtgjmfoopnmdckaaDoor
open Go Go.RowKit
theorem ext_size (a : ByteArray) (k : Nat) (h : k ≤ a.size) : (a.extract 0 k).size = k := by
  rw [← Dg.len_L, Dg.L_extract, List.length_drop, List.length_take, Dg.len_L]; omega
set_option maxHeartbeats 1000000 in
theorem law_block (s : ByteArray) (p : Nat) (a b : ByteArray) (hp : p ≤ 255) (w : World) (he : Env w) (hs : s.size ≤ 9223372036854775807) (ha : a.size ≤ 9223372036854775807) (hb0 : b.size ≤ 9223372036854775807) :
    Calls Tryd.prog 7 #[.string s, .int .u8 p, .string a, .string b] w fun e w' => e = .returned (.bool true) ∧ Below w.heap.size w w' := by
  go_enter Tryd.func7, Tryd.ntmps7
  go_wp2_with fail
  refine (head_any w he).mono ?_
  rintro e w1 ⟨rfl, hb⟩
  go_upto_region 5 with (fail)
  obtain ⟨k, hk, hk8, hka, hkb⟩ : ∃ k : Nat, (if (8 : Int) < (if b.size < a.size then (b.size : Int) else (a.size : Int)) then (8 : Int) else (if b.size < a.size then (b.size : Int) else (a.size : Int))) = (k : Int) ∧ k ≤ 8 ∧ k ≤ a.size ∧ k ≤ b.size :=
    ⟨min 8 (min b.size a.size), by split <;> split <;> omega, by omega, by omega, by omega⟩
  rw [hk]
  clear hk
  rw [Int.toNat_natCast]
  have hx := ext_size a k hka
  have hy := ext_size b k hkb
  generalize a.extract 0 k = x at *
  generalize b.extract 0 k = y at *
  have hx' : x.size ≤ 8 := by omega
  have hy' : y.size ≤ 8 := by omega
  have HX := hide hx; clear hx
  have HY := hide hy; clear hy
  clear hka hkb
  by_cases h1 : s.size ≤ 2000
  · by_cases h2 : 8 * p ≤ s.size
    · go_wp2_with fail
      obtain ⟨m, hm, hm1⟩ : ∃ m : Nat, min (8 * (p : Int) + (k : Int)) (s.size : Int) = (m : Int) ∧ m = min (8 * p + k) s.size := ⟨min (8 * p + k) s.size, by omega, rfl⟩
      rw [hm, Int.toNat_natCast]
      clear hm
      have hbl := hide (fun h => Dg.block_ne s p k m x y HX.out HY.out hx' h2 (by omega) hm1 h)
      have hP := ext_size s (8 * p) h2
      have hP' : (s.extract 0 (8 * p)).size ≤ 2000 := by omega
      have hR' : (s.extract m s.size).size ≤ 2000 := by rw [← Dg.len_L, Dg.L_extract, List.length_drop, List.length_take, Dg.len_L]; omega
      clear hP hm1
      generalize s.extract m s.size = R at *
      have hsz : ∀ z : ByteArray, z.size ≤ 8 → (s.extract 0 (8 * p) ++ z ++ R).size ≤ 9223372036854775807 := fun z hz => by rw [ByteArray.size_append, ByteArray.size_append]; omega
      have hsx := hsz x hx'
      have hsy := hsz y hy'
      clear hsz
      have i1 : (0 : Int) ≤ 8 * (p : Int) := by omega
      have i2 : 8 * (p : Int) ≤ (s.size : Int) := by omega
      have i3 : (8 * (p : Int)).toNat = 8 * p := by omega
      have hslice : ∀ W, (Instr.slice 9 (.string s) none (some (.int .i64 (8 * (p : Int)))) none).run Tryd.prog W = .ok (.string (s.extract 0 (8 * p))) W := fun W => by
        have := run_slice_string_to_if (P := Tryd.prog) W 9 s .i64 (8 * (p : Int)) Tryd.underlying9
        rw [this, if_pos ⟨i1, i2⟩, i3]
      clear i1 i2 i3
      generalize s.extract 0 (8 * p) = P0 at *
      have f1 : ¬ (9223372036854775807 < P0.size + x.size) := by omega
      have f2 : ¬ (9223372036854775807 < P0.size + y.size) := by omega
      have f3 : ¬ (9223372036854775807 < P0.size + x.size + R.size) := by omega
      have f4 : ¬ (9223372036854775807 < P0.size + y.size + R.size) := by omega
      by_cases hxy : x = y
      · subst hxy
        refine wp_region_quiet_below (by kernel_rfl) (by kernel_rfl) ?_
        repeat (first | go_big_quiet_step ((refine Calls.regrown_of (sum_any _ ?_ _); (simp only [ByteArray.size_append]; omega))) | quiet_step ((refine Calls.regrown_of (sum_any _ ?_ _); (simp only [ByteArray.size_append]; omega))))
        refine wpQuiet_nil ?_
        intro _ hw'
        obtain ⟨⟨dq, osq⟩, hw''⟩ := hw'
        subst hw''
        go_wp2
        go_ret
        exact ⟨rfl, bnext hb (below_regrown w1 dq osq)⟩
      · have t1 : (x.toList == y.toList) = false := tl_false hxy
        have t2 : ((Dg.sumB (P0 ++ x ++ R)).toList == (Dg.sumB (P0 ++ y ++ R)).toList) = false := tl_false fun h => hxy (hbl.out h)
        clear hxy
        refine wp_region_quiet_below (by kernel_rfl) (by kernel_rfl) ?_
        repeat (first | go_big_quiet_step ((refine Calls.regrown_of (sum_any _ ?_ _); (simp only [ByteArray.size_append]; omega))) | quiet_step ((refine Calls.regrown_of (sum_any _ ?_ _); (simp only [ByteArray.size_append]; omega))))
        refine wpQuiet_nil ?_
        intro _ hw'
        obtain ⟨⟨dq, osq⟩, hw''⟩ := hw'
        subst hw''
        go_wp2
        go_ret
        exact ⟨rfl, bnext hb (below_regrown w1 dq osq)⟩
    · go_wp2
      go_ret
      exact ⟨rfl, hb⟩
  · go_wp2
    go_ret
    exact ⟨rfl, hb⟩
end Go.Proofs.YtgjmfoopnmdckaaDoor
