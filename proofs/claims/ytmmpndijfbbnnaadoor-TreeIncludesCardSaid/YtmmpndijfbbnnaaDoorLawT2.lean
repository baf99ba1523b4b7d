/- The law TreeGrows. -/
import Derived.Test.YtmmpndijfbbnnaaDoorLawT
namespace Go.Proofs.YtmmpndijfbbnnaaDoor
open Go Go.RowKit Go.Sort
theorem allDig_roots (a b : List ByteArray) : allDig [Dg.root a, Dg.root b] = true := allDig_yes _ fun x hx => by
  rcases List.mem_cons.1 hx with rfl | hx
  · exact Dg.isB_root _
  · rw [List.mem_singleton.1 hx]; exact Dg.isB_root _
theorem linkL_isB (l : List ByteArray) (m : Nat) (hm : m ≤ l.length) : ∀ s ∈ linkL l m, Dg.isB s = true ∧ s.size = 16 := fun s hs => by
  by_cases h0 : m = 0
  · subst h0; rw [linkL_zero] at hs; simp at hs
  · rw [linkL_pos l m h0] at hs
    exact Dg.link_sizes l.length l m true rfl (by omega) hm s hs
theorem grows_ext (l : List ByteArray) (m : Nat) (hm : m ≤ l.length) (hl : l.length ≤ 1000000) : extB (Dg.root (l.take m)) m (Dg.root l) l.length (linkL l m) = true := by
  unfold extB
  rw [decide_eq_true (show (0 : Int) ≤ m ∧ (m : Int) ≤ l.length ∧ (l.length : Int) ≤ 1000000 by omega), allDig_yes _ (fun x hx => (linkL_isB l m hm x hx).1), allDig_roots, Bool.true_and, Bool.true_and, Bool.true_and]
  by_cases h0 : m = 0
  · subst h0
    rw [if_pos (show ((0 : Nat) : Int) = 0 from rfl), linkL_zero, List.take_zero, Dg.root_nil]
    by_cases h1 : l.length = 0
    · rw [List.length_eq_zero_iff.1 h1, Dg.root_nil]; simp
    · rw [decide_eq_true (show 0 < (l.length : Int) by omega)]; simp
  · rw [if_neg (by omega), Int.toNat_natCast, Int.toNat_natCast, linkL_pos l m h0, Dg.link_len l.length l m true rfl (by omega) hm, Dg.link_both l.length l m true _ rfl (by omega) hm (fun _ => rfl)]
    simp
theorem linkL_len (l : List ByteArray) (m : Nat) (hm : m ≤ l.length) (hl : l.length ≤ 20) : (linkL l m).length ≤ Dg.bits 5 l.length + 1 ∧ ((linkL l m).length = 0 ↔ m = 0 ∨ m = l.length) := by
  by_cases h0 : m = 0
  · subst h0; rw [linkL_zero]; simp
  · rw [linkL_pos l m h0, Dg.link_len l.length l m true rfl (by omega) hm]
    refine ⟨Dg.long_small _ hl _ hm (by omega), ?_⟩
    rw [Dg.long_zero _ _ (by omega) hm]
    constructor
    · intro h; exact Or.inr h
    · rintro (h | h)
      · exact absurd h h0
      · exact h
theorem bits_step : ∀ n, n ≤ 20 → n ≠ 0 → Dg.bits 5 n = 1 + Dg.bits 5 (n / 2) := by decide +kernel
theorem bits_le : ∀ n, n ≤ 20 → Dg.bits 5 n ≤ 5 := by decide +kernel
theorem bits_zero : Dg.bits 5 0 = 0 := rfl
theorem mod_of (raw k : Nat) (hk : 0 < k) : ∃ m : Nat, (raw : Int) % (k : Int) = (m : Int) ∧ m < k := ⟨raw % k, by rw [Int.natCast_emod], Nat.mod_lt _ hk⟩
theorem mod_of1 (raw k : Nat) : ∃ m : Nat, (raw : Int) % ((k : Int) + 1) = (m : Int) ∧ m ≤ k := by
  obtain ⟨m, h1, h2⟩ := mod_of raw (k + 1) (by omega)
  exact ⟨m, by rw [← h1]; rfl, by omega⟩
set_option maxRecDepth 100000 in
set_option maxHeartbeats 1000000 in
theorem law_grows (A : Option Addr) (c : Nat) (l : List ByteArray) (raw : Nat) (hraw : raw ≤ 255) (w : World) (he : Env w) (hl : l.length ≤ 9223372036854775807) (hls : ∀ s ∈ l, s.size ≤ 9223372036854775807) (hS : Strs w w.heap.size A l) (hc : l.length ≤ c) :
    Calls Tryd.prog 7 #[.slice A l.length c, .int .u8 raw] w fun e w' => e = .returned (.bool true) ∧ Below w.heap.size w w' := by
  have HS := hide hls; clear hls
  obtain ⟨m, hm, hml⟩ := mod_of1 raw l.length
  go_enter Tryd.func7, Tryd.ntmps7
  go_wp2_with fail
  refine (head_any w he).mono ?_
  rintro e w1 ⟨rfl, hb⟩
  replace hS := keepS hS hb
  replace he := he.next hb
  go_wp2_with fail
  cases hf : few20 l with
  | false =>
    refine (few2_of A c _ l false rfl hf _ hl HS.out hS).mono ?_
    rintro e w2 ⟨rfl, rfl⟩
    clear hf
    go_wp2
    go_ret
    exact ⟨rfl, hb⟩
  | true =>
    refine (few2_of A c _ l true rfl hf _ hl HS.out hS).mono ?_
    rintro e w2 ⟨rfl, rfl⟩
    obtain ⟨f1, f2⟩ := few20_bounds hf
    have F2 := hide f2; clear hf f2
    have hz := hide (fun s (h : s ∈ l) => (by have := F2.out s h; omega : s.size ≤ 1073741824))
    have hll := linkL_len l m hml f1
    have hlb := hide (linkL_isB l m hml)
    have hbt := bits_le l.length f1
    have hge := hide (grows_ext l m hml (by omega))
    have hlk := hide (fun (W : World) (e : Env W) (s : Strs W W.heap.size A l) => Link_of A c l.length l m m rfl _ rfl W rfl e hc (by omega) hz.out s hml)
    have htl : (l.take m).length = m := by rw [List.length_take]; omega
    have Htl := hide htl; clear htl
    have r1 := hide (fun (W : World) (e : Env W) (s : Strs W W.heap.size A l) => root_of m A c (l.take m) _ W Htl.out rfl e (by omega) (by omega) (fun s h => hz.out s (List.mem_of_mem_take h)) (s.take m))
    have r2 := hide (fun (W : World) (e : Env W) (s : Strs W W.heap.size A l) => root_of l.length A c l _ W rfl rfl e hc (by omega) hz.out s)
    have z1 := root_size (l.take m)
    have z2 := root_size l
    have s1 := slice_to A l.length c m (by omega)
    generalize linkL l m = X at *
    generalize Dg.root (l.take m) = R1 at *
    generalize Dg.root l = R2 at *
    generalize l.length = la at *
    obtain ⟨hX1, hX2⟩ := hll
    have HX2 := hide hX2; clear hX2
    go_wp2_with fail
    refine (hlk.out _ he hS).mono ?_
    rintro e w2 ⟨A1, c1, n1, rfl, hn1, hc1, hSX, hb2⟩
    replace hS := keepS hS hb2
    replace he := he.next hb2
    replace hb := bnext hb hb2; clear hb2
    have hn1' := hn1
    rw [hn1'] at hX1 HX2
    have HN1 := hide hn1; clear hn1 hn1'
    go_wp2_with fail
    go_loop [9, 10] (fun dv nv => ∃ d n : Nat, dv = .int .i64 d ∧ nv = .int .i64 n ∧ n ≤ 20 ∧ d + Dg.bits 5 n = Dg.bits 5 la) (fun _ nv => (intOf nv).toNat)
    case atStart => exact ⟨0, la, rfl, rfl, f1, by omega⟩
    case round =>
      obtain ⟨d, n, rfl, rfl, hn, hd⟩ := hrel
      by_cases h0 : 0 < n
      · have hst := bits_step n hn (by omega)
        have HD := hide hd; have HST := hide hst; clear hd hst
        have hdl : d ≤ 5 := by have := HD.out; omega
        go_wp2
        go_round
        case rel => exact ⟨d + 1, n / 2, by go_num, by go_num, by omega, by have := HD.out; have := HST.out; omega⟩
        case measure => simp [intOf]; omega
      · obtain rfl : n = 0 := by omega
        rw [bits_zero, Nat.add_zero] at hd
        have hdl : d ≤ 5 := by omega
        have hX1' : n1 ≤ d + 1 := by omega
        clear hX1 hd
        go_wp2_with fail
        refine (r1.out _ he hS).mono ?_
        rintro e w3 ⟨rfl, hb2⟩
        replace hS := keepS hS hb2
        replace hSX := keepS hSX hb2
        replace he := he.next hb2
        replace hb := bnext hb hb2; clear hb2
        go_wp2_with fail
        refine (r2.out _ he hS).mono ?_
        rintro e w4 ⟨rfl, hb2⟩
        replace hSX := keepS hSX hb2
        replace he := he.next hb2
        replace hb := bnext hb hb2; clear hb2
        go_wp2_with fail
        refine (extends_of R1 m R2 la A1 c1 n1 X true hge.out _ he HN1.out (by omega) (fun s h => by have := (hlb.out s h).2; omega) (by omega) (by omega) hSX).mono ?_
        rintro e w5 ⟨rfl, hb2⟩
        replace hb := bnext hb hb2; clear hb2
        clear hm
        have x0 : decide ((n1 : Int) ≤ (d : Int) + 1) = true := decide_eq_true (by omega)
        by_cases h1 : m = 0
        · have b1 : ((n1 : Int) == 0) = true := ieq_t (by have := HX2.out.2 (Or.inl h1); omega)
          have b2 : ((m : Int) == 0) = true := ieq_t (by omega)
          clear h1
          go_wp2
          go_ret
          exact ⟨rfl, hb⟩
        · have b2 : ((m : Int) == 0) = false := ieq_f (by omega)
          by_cases h2 : m = la
          · have b1 : ((n1 : Int) == 0) = true := ieq_t (by have := HX2.out.2 (Or.inr h2); omega)
            have b3 : ((m : Int) == (la : Int)) = true := ieq_t (by omega)
            clear h1 h2
            go_wp2
            go_ret
            exact ⟨rfl, hb⟩
          · have b1 : ((n1 : Int) == 0) = false := ieq_f (by intro h; rcases HX2.out.1 (by omega) with h3 | h3; exact h1 h3; exact h2 h3)
            have b3 : ((m : Int) == (la : Int)) = false := ieq_f (by omega)
            clear h1 h2
            go_wp2
            go_ret
            exact ⟨rfl, hb⟩
end Go.Proofs.YtmmpndijfbbnnaaDoor
