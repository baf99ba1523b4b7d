/- Walks and laws of this seat, several texts in one: SL2. No conditions but those that each theorem states. -/
import Derived.Test.YtadmidkpchonhaaDoorMA3
/- SealVerifies. -/
namespace Go.Proofs.YtadmidkpchonhaaDoor
open Go Go.RowKit Go.Sort
set_option maxRecDepth 100000 in
set_option maxHeartbeats 4000000 in
theorem law_verifies (s m : ByteArray) (r1 r2 : Nat) (w : World) (he : Env w) (hr1 : r1 ≤ 255) (hr2 : r2 ≤ 255) (hs : s.size ≤ 9223372036854775807) (hm : m.size ≤ 9223372036854775807) :
    Calls Tryd.prog 3 #[.string s, .int .u8 r1, .int .u8 r2, .string m] w fun e w' => e = .returned (.bool true) ∧ Below w.heap.size w w' := by
  have hm2 := hide (mem2 (a := s) (b := m) (n := 9223372036854775807) hs hm)
  go_enter Tryd.func3, Tryd.ntmps3
  have hb := Below.refl w.heap.size w
  go_wp2_with fail
  refine (head3_of w he).mono ?_
  rintro e w1 ⟨rfl, hb1⟩
  replace he := he.next hb1
  replace hb := bnext hb hb1; clear hb1
  go_wp2_with fail
  cases hsh : shortB [s, m] with
  | false =>
    refine (short3_new [s, m] _ _ 2 _ rfl (by decide) hm2.out false hsh _ rfl _ rfl).mono ?_
    rintro e w2 ⟨rfl, rfl⟩
    go_wp2
    go_ret
    exact ⟨rfl, hb.alloc hb.size _⟩
  | true =>
    obtain ⟨zs, zm⟩ := short2 hsh
    have hsh' := hide hsh; clear hsh
    obtain ⟨h, hh⟩ : ∃ h : Nat, r1 % 4 = h := ⟨_, rfl⟩
    have h3 : h ≤ 3 := by omega
    have e1 : (r1 : Int) % 4 = (h : Int) := by omega
    have hp := Nat.pow_le_pow_right (n := 2) (by omega) h3
    have hp1 := Nat.one_le_two_pow (n := h)
    obtain ⟨n, hn⟩ : ∃ n : Nat, 2 ^ h = n := ⟨_, rfl⟩
    have hw := pow_wrap h n hn (by omega)
    have hw2 := pow_wrapK h n hn (by omega)
    rw [hn] at hp hp1
    have hp : n ≤ 8 := hp
    obtain ⟨i, hi⟩ : ∃ i : Nat, r2 % n = i := ⟨_, rfl⟩
    have hin : i < n := by rw [← hi]; exact Nat.mod_lt _ (by omega)
    have e2 : (r2 : Int) % (n : Int) = (i : Int) := by rw [← hi]; push_cast; rfl
    have hn1 : 2 ^ (h + 1) = 2 * n := by rw [Nat.pow_succ, hn]; omega
    have HN := hide hn; have HN1 := hide hn1; clear hn hn1 hh hi
    have hn0 : (0 : Int) < (n : Int) := by omega
    refine (short3_new [s, m] _ _ 2 _ rfl (by decide) hm2.out true hsh'.out _ rfl _ rfl).mono ?_
    rintro e w2 ⟨rfl, rfl⟩
    replace he := he.alloc (.cells #[.string s, .string m] 9)
    replace hb := hb.alloc hb.size (.cells #[.string s, .string m] 9)
    have hv := verifyB_self s m h i (by omega) (by rw [HN.out]; exact hin)
    have hPd := isB_publicB s h
    have hSd := hide (Dg.sigB_isB s i m)
    have hTd := hide (Dg.sealPath_isB s h i)
    have hSz := hide (sigB_sz s i m)
    have hTz := hide (sealPath_sz s h i)
    have hSl := Dg.sigB_len s i m
    have hTl := Dg.sealPath_len s h i (by rw [HN.out]; exact hin)
    have hsame := (sameS_iff (i : Int) (i : Int) (Dg.sigB s i m) (Dg.sigB s i m) (Dg.sealPath s h i) (Dg.sealPath s h i)).2 ⟨rfl, rfl, rfl⟩
    have hTl3 := Dg.sealPath_len s (h + 1) i (by rw [HN1.out]; omega)
    generalize hP : Dg.publicB s h = P at *
    generalize hSG : Dg.sigB s i m = SG at *
    generalize hPT : Dg.sealPath s h i = PT at *
    generalize hPT3 : Dg.sealPath s (h + 1) i = PT3 at *
    have HP := hide hP; have HSG := hide hSG; have HPT := hide hPT; have HPT3 := hide hPT3; have HV := hide hv; have HPd := hide hPd; have HSl := hide hSl; have HTl := hide hTl; have HTl3 := hide hTl3; have HS := hide hsame
    clear hP hSG hPT hPT3 hv hPd hSl hTl hTl3 hsame
    go_wp2_with fail
    refine (public_any s h (by omega) (by omega) P HP.out _ he).mono ?_
    rintro e w3 ⟨rfl, hb3⟩
    replace he := he.next hb3
    replace hb := bnext hb hb3; clear hb3
    go_wp2_with fail
    refine (sign_of s m _ _ h i rfl rfl (by omega) (by omega) (by omega) (by rw [HN.out]; exact hin) SG PT HSG.out HPT.out _ he).mono ?_
    rintro e w4 ⟨A, c, A', c', rfl, hc, hc', hS, hS', hb4⟩
    replace he := he.next hb4
    replace hb := bnext hb hb4; clear hb4
    go_wp2_with fail
    refine (sign_of s m _ _ h i rfl rfl (by omega) (by omega) (by omega) (by rw [HN.out]; exact hin) SG PT HSG.out HPT.out _ (he.alloc _)).mono ?_
    rintro e w5 ⟨A2, c2, A2', c2', rfl, hc2, hc2', hS2, hS2', hb5⟩
    have r5 := row_new hb5
    replace hS := keepS hS (bnextA (Below.refl _ _) hb5)
    replace hS' := keepS hS' (bnextA (Below.refl _ _) hb5)
    replace he := he.next (bnextA (Below.refl _ _) hb5)
    replace hb := bnextA hb hb5; clear hb5
    generalize w4.heap.size = q4 at *
    go_wp2_with fail
    refine (sign_of s m _ _ (h + 1) i (by push_cast; rfl) rfl (by omega) (by omega) (by omega) (by rw [HN1.out]; omega) SG PT3 HSG.out HPT3.out _ (he.alloc _)).mono ?_
    rintro e w6 ⟨A3, c3, A3', c3', rfl, hc3, hc3', hS3, hS3', hb6⟩
    have r6 := row_next r5 (bnextA (Below.refl _ _) hb6)
    have r6' := row_new hb6
    replace hS := keepS hS (bnextA (Below.refl _ _) hb6)
    replace hS' := keepS hS' (bnextA (Below.refl _ _) hb6)
    replace hS2 := keepS hS2 (bnextA (Below.refl _ _) hb6)
    replace hS2' := keepS hS2' (bnextA (Below.refl _ _) hb6)
    replace he := he.next (bnextA (Below.refl _ _) hb6)
    replace hb := bnextA hb hb6; clear hb6 r5
    generalize w5.heap.size = q5 at *
    obtain ⟨f1, f2, f3⟩ := cells3 r6
    obtain ⟨g1, g2, g3⟩ := cells3 r6'
    have hl4 : q4 < w6.heap.size := (Array.getElem?_eq_some_iff.1 r6).1
    have hl5 : q5 < w6.heap.size := (Array.getElem?_eq_some_iff.1 r6').1
    go_wp2_with fail
    have hS7 := keepS hS (Below.news (Below.refl _ _) (.cells #[.int .i64 i, .slice A3 18 c3, .slice A3' (h + 1) c3'] 29))
    have hS7' := keepS hS' (Below.news (Below.refl _ _) (.cells #[.int .i64 i, .slice A3 18 c3, .slice A3' (h + 1) c3'] 29))
    have hT7 := keepS hS2 (Below.news (Below.refl _ _) (.cells #[.int .i64 i, .slice A3 18 c3, .slice A3' (h + 1) c3'] 29))
    have hT7' := keepS hS2' (Below.news (Below.refl _ _) (.cells #[.int .i64 i, .slice A3 18 c3, .slice A3' (h + 1) c3'] 29))
    refine (rsame3_of i i A A2 A' A2' c c2 c' c2' 18 18 h h SG SG PT PT true HS.out _ HSl.out HSl.out HTl.out HTl.out (by omega) (by omega) (by omega) (by omega) hS7 hT7 hS7' hT7').mono ?_
    rintro e w8 ⟨rfl, hb8⟩
    have r8 := row_next r6 (bnextA (Below.refl _ _) hb8)
    have r8' := row_new hb8
    replace hS := keepS hS (bnextA (Below.refl _ _) hb8)
    replace hS' := keepS hS' (bnextA (Below.refl _ _) hb8)
    replace hS3 := keepS hS3 (bnextA (Below.refl _ _) hb8)
    replace he := he.next (bnextA (Below.refl _ _) hb8)
    replace hb := bnextA hb hb8
    clear hb8 f1 f2 f3 g1 g2 g3 hS7 hS7' hT7 hT7' r6 r6' hS2 hS2'
    generalize w6.heap.size = q6 at *
    go_wp2
    go_loopw [20] (fun iv wr => ∃ k : Nat, k ≤ 18 ∧ iv = .int .i64 k ∧ Below w8.heap.size w8 wr) (fun iv _ => 18 - (intOf iv).toNat)
    case atStart => exact ⟨0, by omega, rfl, Below.refl _ _⟩
    case round =>
      obtain ⟨k, hk, rfl, hbr⟩ := hrel
      have rr := row_next r8 hbr
      obtain ⟨f1, f2, f3⟩ := cells3 rr
      have hSr := keepS hS hbr
      by_cases hlt : k < 18
      · have hkl : k < SG.length := by rw [HSl.out]; exact hlt
        obtain ⟨b, off, rfl, hbl, hcell⟩ := hSr.get hkl
        have hx := hSd.out SG[k] (List.getElem_mem hkl)
        generalize SG[k] = x at *
        have hx16 := Dg.isB_len hx
        have hx := hide hx
        have hk0 : (k : Int) < ((18 : Nat) : Int) := by omega
        go_wp2_with fail
        refine (is_of x true hx.out (by omega) _).mono ?_
        rintro e w' ⟨rfl, hb'⟩
        go_wp2
        go_roundw
        case rel => exact ⟨k + 1, by omega, by go_num, bnext hbr hb'⟩
        case measure => simp [intOf]; omega
      · obtain rfl : k = 18 := by omega
        rw [show ((18 : Nat) : Int) = (18 : Int) from rfl]
        have r9 := rr
        have r9' := row_next r8' hbr
        have hS9 := keepS hS hbr
        have hS9' := keepS hS' hbr
        have hS9x := keepS hS3 hbr
        have he9 := he.next hbr
        have hb9 := bnext hb hbr
        clear r8 r8' hS hS' hS3 he hb hbr
        go_wp2
        obtain ⟨w9, rfl⟩ : ∃ w9 : World, w9 = wr := ⟨_, rfl⟩
        go_loopw [21] (fun iv wr => ∃ k : Nat, k ≤ h ∧ iv = .int .i64 k ∧ Below w9.heap.size w9 wr) (fun iv _ => h - (intOf iv).toNat)
        case atStart => exact ⟨0, by omega, rfl, Below.refl _ _⟩
        case round =>
          obtain ⟨k, hk, rfl, hbr⟩ := hrel
          have rr := row_next r9 hbr
          obtain ⟨f1, f2, f3⟩ := cells3 rr
          have hSr := keepS hS9' hbr
          by_cases hlt : k < h
          · have hkl : k < PT.length := by rw [HTl.out]; exact hlt
            obtain ⟨b, off, rfl, hbl, hcell⟩ := hSr.get hkl
            have hx := hTd.out PT[k] (List.getElem_mem hkl)
            generalize PT[k] = x at *
            have hx16 := Dg.isB_len hx
            have hx := hide hx
            have hk0 : (k : Int) < ((h : Nat) : Int) := by omega
            go_wp2_with fail
            refine (is_of x true hx.out (by omega) _).mono ?_
            rintro e w' ⟨rfl, hb'⟩
            go_wp2
            go_roundw
            case rel => exact ⟨k + 1, by omega, by go_num, bnext hbr hb'⟩
            case measure => simp [intOf]; omega
          · obtain rfl : h = k := by omega
            have r10 := row_next r9 hbr
            have r10' := row_next r9' hbr
            have hS10 := keepS hS9 hbr
            have hS10' := keepS hS9' hbr
            have hS10x := keepS hS9x hbr
            have he10 := he9.next hbr
            have hb10 := bnext hb9 hbr
            obtain ⟨g1, g2, g3⟩ := cells3 r10'
            have hhs : Hid (Dg.same SG SG = true) := (Dg.same_iff _ _).2 rfl
            have hl4 : q4 < wr.heap.size := (Array.getElem?_eq_some_iff.1 r10).1
            go_wp2_with fail
            refine (is_of P true HPd.out (by rw [Dg.isB_len HPd.out]; decide) _).mono ?_
            rintro e w11 ⟨rfl, hb11⟩
            have r11 := row_next r10 hb11
            have r11' := row_next r10' hb11
            obtain ⟨f1, f2, f3⟩ := cells3 r11
            obtain ⟨g1, g2, g3⟩ := cells3 r11'
            go_wp2_with fail
            refine (same_of A3 A c3 c SG SG 18 18 HSl.out HSl.out true hhs.out _ (by decide) (by decide) (keepS hS10x hb11) (keepS hS10 hb11)).mono ?_
            rintro e w12 ⟨rfl, hb12⟩
            have hb1112 := bnext hb11 hb12
            have r12 := row_next r11 hb12
            obtain ⟨f1, f2, f3⟩ := cells3 r12
            go_wp2_with fail
            refine (verify_of P m i A A' 18 h c c' SG PT _ (he10.next hb1112) (by omega) HSl.out hSz.out (keepS hS10 hb1112) HTl.out hTz.out (keepS hS10' hb1112) hc true HV.out).mono ?_
            rintro e w13 ⟨rfl, hb13⟩
            go_wp2
            go_ret
            exact ⟨rfl, bnext (bnext hb10 hb1112) hb13⟩
end Go.Proofs.YtadmidkpchonhaaDoor

