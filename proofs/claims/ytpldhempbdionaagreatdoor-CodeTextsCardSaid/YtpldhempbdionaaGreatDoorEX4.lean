/- Walks and laws of this seat, several texts in one. No conditions but those that each theorem states. -/
import Derived.Test.YtpldhempbdionaaGreatDoorEX3
import Derived.HandedShaped
import Derived.Shelf.Vars
import Derived.Below
import Derived.ChangeSame
import Derived.ProofKit
import Derived.OpenShut
import Derived.LaidMore
import Derived.Lay
import Derived.SevenTiedAt
import Derived.Stop.Joined
import Derived.SliceStrings
import Derived.Lib.SmallJoins
import Derived.Deep.Slices
/- CodeTexts. No conditions but those that each theorem states. -/
namespace Go.Proofs.YtpldhempbdionaaGreatDoor
open Go Go.RowKit Go.Sort Go.Maps
set_option maxRecDepth 100000 in
set_option maxHeartbeats 16000000 in
theorem law_texts18 (l : List Dg.It) (A : Option Addr) (n c : Nat) (hl : l.length = n) (hw : ∀ x ∈ l, ItW x) (hn : n ≤ 9223372036854775807) (l' : List Dg.It) (A' : Option Addr) (n' c' : Nat) (hl' : l'.length = n') (hw' : ∀ x ∈ l', ItW x) (hn' : n' ≤ 9223372036854775807) (t : ByteArray) (ht : t.size ≤ 9223372036854775807) (w : World) (he : Env w) (hm : MaxI w) (hI : Its w w.heap.size A l) (hI' : Its w w.heap.size A' l') :
    Calls Tryz.prog 8 #[.agg #[.slice A n c], .agg #[.slice A' n' c'], .string t] w fun e w' => e = .returned (.bool true) ∧ Below w.heap.size w w' := by
  have hx1 := Below.news (Below.refl w.heap.size w) (.cells #[.slice A n c] 24)
  have hx2 := Below.news (Below.refl (w.alloc (.cells #[.slice A n c] 24)).heap.size (w.alloc (.cells #[.slice A n c] 24))) (.cells #[.slice A' n' c'] 24)
  have hb1 := bnext hx1 hx2
  have hz1 : (w.alloc (.cells #[.slice A n c] 24)).heap.size = w.heap.size + 1 := by simp
  have hS1 : C2 w.heap.size (w.heap.size + 1) A n c l A' n' c' l' ((w.alloc (.cells #[.slice A n c] 24)).alloc (.cells #[.slice A' n' c'] 24)) := ⟨iNext (heap_alloc_new w (.cells #[.slice A n c] 24)) hx2, hz1 ▸ heap_alloc_new (w.alloc (.cells #[.slice A n c] 24)) (.cells #[.slice A' n' c'] 24), (hI.keep hx1).keep hx2, (hI'.keep hx1).keep hx2, (he.next hx1).next hx2⟩
  have HL := hide hl; have HW := hide hw; have HL' := hide hl'; have HW' := hide hw'; have HM := hide hm
  clear hl hw hI he hl' hw' hI' hx1 hx2 hz1 hm
  go_enter Tryz.func8, Tryz.ntmps8
  go_wp2_with fail
  generalize (w.alloc (.cells #[.slice A n c] 24)).alloc (.cells #[.slice A' n' c'] 24) = w1 at *
  refine (head_any w1 hS1.env).mono ?_
  rintro e w2 ⟨rfl, hx2⟩
  have hS2 := hS1.below hx2
  have hb2 := bnext hb1 hx2
  clear hS1 hb1 hx2
  try clear hc1
  try clear hc2
  have hc1 := iCells0 hS2.r1
  have hc2 := iCells0 hS2.r2
  obtain ⟨F, hF⟩ : ∃ F, (fewC l 30 && fewC l' 30) = F := ⟨_, rfl⟩
  go_wp2_with fail
  refine (few2_of l A n c HL.out hn l' A' n' c' HL'.out hn' w2 _ rfl hS2.i1 hS2.i2 F hF).mono ?_
  rintro e w3 ⟨rfl, hx3⟩
  have hS3 := hS2.below hx3
  have hb3 := bnext hb2 hx3
  clear hS2 hb2 hx3
  try clear hc1
  try clear hc2
  have hc1 := iCells0 hS3.r1
  have hc2 := iCells0 hS3.r2
  cases F with
  | false =>
    clear hF
    go_wp2
    go_ret
    exact ⟨rfl, hb3⟩
  | true =>
    by_cases ht5 : 5000 < t.size
    · have hti : (5000 : Int) < (t.size : Int) := by omega
      go_wp2
      go_ret
      exact ⟨rfl, hb3⟩
    · have hti : ¬ (5000 : Int) < (t.size : Int) := by omega
      rw [Bool.and_eq_true] at hF
      obtain ⟨n30, z30⟩ := few_sizes hF.1
      obtain ⟨m30, y30⟩ := few_sizes hF.2
      rw [HL.out] at n30
      rw [HL'.out] at m30
      have hx30 := text_small hF.1
      have ZL := hide z30; have ZL' := hide y30; have HF := hide hF; have HX := hide hx30
      clear hF z30 y30 hx30
      obtain ⟨V, hV⟩ : ∃ V, Dg.validC l = V := ⟨_, rfl⟩
      obtain ⟨V', hV'⟩ : ∃ V, Dg.validC l' = V := ⟨_, rfl⟩
      cases V with
      | false =>
        cases V' with
        | false =>
          have hT1 : Dg.textC l = (⟨#[]⟩, 1) := by unfold Dg.textC; rw [hV]; rfl
          have hT2 : Dg.textC l' = (⟨#[]⟩, 1) := by unfold Dg.textC; rw [hV']; rfl
          have HT1 := hide hT1; have HT2 := hide hT2; have HV := hide hV; have HV' := hide hV'
          clear hT1 hT2 hV hV'
          go_wp2_with fail
          refine (Code.text_of l A n c HL.out HW.out (by omega) w3 hS3.i1 (few_up ZL.out (by decide)) ⟨#[]⟩ 1 HT1.out).mono ?_
          rintro e w4 ⟨rfl, hx4⟩
          have hS4 := hS3.below hx4
          have hb4 := bnext hb3 hx4
          clear hS3 hb3 hx4
          try clear hc1
          try clear hc2
          have hc1 := iCells0 hS4.r1
          have hc2 := iCells0 hS4.r2
          go_wp2_with fail
          refine (Code.text_of l' A' n' c' HL'.out HW'.out (by omega) w4 hS4.i2 (few_up ZL'.out (by decide)) ⟨#[]⟩ 1 HT2.out).mono ?_
          rintro e w5 ⟨rfl, hx5⟩
          have hS5 := hS4.below hx5
          have hb5 := bnext hb4 hx5
          clear hS4 hb4 hx5
          try clear hc1
          try clear hc2
          have hc1 := iCells0 hS5.r1
          have hc2 := iCells0 hS5.r2
          go_wp2_with fail
          refine (Code.valid_of l A n c HL.out HW.out (by omega) w5 hS5.i1 false HV.out).mono ?_
          rintro e w6 ⟨rfl, hx6⟩
          have hS6 := hS5.below hx6
          have hb6 := bnext hb5 hx6
          clear hS5 hb5 hx6
          try clear hc1
          try clear hc2
          have hc1 := iCells0 hS6.r1
          have hc2 := iCells0 hS6.r2
          go_wp2_with fail
          refine (Code.parse_of ⟨#[]⟩ (by decide) (parse_small (by decide)) w6 (HM.out.next hb6) [] 0 parse_empty).mono ?_
          rintro e w7 ⟨⟨AX, cX, rfl, hcX, hIX⟩, hx7⟩
          have hS7 := hS6.below hx7
          have hb7 := bnext hb6 hx7
          clear hS6 hb6 hx7
          rw [List.length_nil] at hcX ⊢
          have hn8 := Below.news (Below.refl w7.heap.size w7) (.cells #[.slice AX 0 cX] 24)
          have hrX := heap_alloc_new w7 (.cells #[.slice AX 0 cX] 24)
          have hIX2 := hIX.keep hn8
          have hS8 := hS7.below hn8
          have hb8 := bnext hb7 hn8
          clear hS7 hb7 hIX hn8
          try clear hc1
          try clear hc2
          try clear hc1
          try clear hc2
          have hc1 := iCells0 hS8.r1
          have hc2 := iCells0 hS8.r2
          go_wp2_with fail
          generalize w7.alloc (.cells #[.slice AX 0 cX] 24) = w8 at *
          clear hrX hIX2
          obtain ⟨Y, H, hY⟩ : ∃ Y H, Dg.parseO t = (Y, H) := ⟨_, _, rfl⟩
          obtain ⟨k, hk⟩ : ∃ k, Y.length = k := ⟨_, rfl⟩
          have HY := hide hY; have HK := hide hk
          clear hY hk
          refine (Code.parse_of t (by omega) (parse_small (by omega)) w8 (HM.out.next hb8) Y H HY.out).mono ?_
          rintro e w9 ⟨⟨AY, cY, rfl, hcY, hIY⟩, hx9⟩
          have hS9 := hS8.below hx9
          have hb9 := bnext hb8 hx9
          clear hS8 hb8 hx9
          rw [HK.out] at hcY ⊢
          have hn10 := Below.news (Below.refl w9.heap.size w9) (.cells #[.slice AY k cY] 24)
          have hrY := heap_alloc_new w9 (.cells #[.slice AY k cY] 24)
          have hIY2 := hIY.keep hn10
          have hS10 := hS9.below hn10
          have hb10 := bnext hb9 hn10
          clear hS9 hb9 hIY hn10
          by_cases hH : H = 0
          · subst hH
            have hok := Dg.texts_ok HY.out
            rcases hok with ⟨_, hvY, hTY⟩ | ⟨h0, _⟩
            case inr => exact absurd rfl h0
            have hYp : Y = Dg.parseP (Dg.L t) := by
              have h9 := HY.out
              unfold Dg.parseO at h9
              rw [if_neg (by omega)] at h9
              split at h9
              · injection h9 with h1 _; exact h1.symm
              · injection h9 with _ h2; exact absurd h2 (by decide)
            have hzY : ∀ x ∈ Y, ∀ s ∈ Dg.fieldsI x, s.size ≤ 10000 := by rw [hYp]; exact parse_small (by omega)
            have hwY : ∀ x ∈ Y, ItW x := items_w (by rw [hYp]; exact parse_kinds _) hzY
            have hkY : k ≤ 2000 := by rw [← HK.out]; exact Dg.good_len hvY
            have HZY := hide hzY; have HWY := hide hwY; have HVY := hide hvY; have HTY := hide hTY
            clear hYp hzY hwY hvY hTY hc1 hc2
            go_wp2_with fail
            generalize w9.alloc (.cells #[.slice AY k cY] 24) = w10 at *
            generalize w9.heap.size = bY at *
            have hcYc := iCells0 hrY
            refine (Code.text_of Y AY k cY HK.out HWY.out (by omega) w10 hIY2 HZY.out t 0 HTY.out).mono ?_
            rintro e wt ⟨rfl, hxt⟩
            have hrY3 := iNext hrY hxt
            have hIY3 := hIY2.keep hxt
            have hbt := bnext hb10 hxt
            clear hrY hIY2 hb10 hS10 hxt hcYc
            have hcYc := iCells0 hrY3
            have eqT : (t.toList == t.toList) = true := beq_self_eq_true _
            go_wp2_with fail
            refine (Code.valid_of Y AY k cY HK.out HWY.out (by omega) wt hIY3 true HVY.out).mono ?_
            rintro e wv ⟨rfl, hxv⟩
            have hbv := bnext hbt hxv
            go_wp2
            go_ret
            exact ⟨rfl, hbv⟩
          · have h5 := Dg.texts_err (by omega) HY.out
            rcases h5 with h5 | ⟨h5, h6⟩
            · exact absurd h5 hH
            have hk0 := HK.out
            rw [h6] at hk0
            subst h5
            obtain rfl : k = 0 := hk0.symm
            clear hc1 hc2 hH
            have hcYc := iCells0 hrY
            go_wp2
            go_ret
            exact ⟨rfl, hb10⟩
        | true =>
          have hT1 : Dg.textC l = (⟨#[]⟩, 1) := by unfold Dg.textC; rw [hV]; rfl
          obtain ⟨S2, hS2'⟩ : ∃ S, Dg.B (Dg.textL l') = S := ⟨_, rfl⟩
          have hT2 := textC_few hV' HF.out.2
          rw [hS2'] at hT2
          have HT1 := hide hT1; have HT2 := hide hT2; have HV := hide hV; have HV' := hide hV'
          clear hT1 hT2 hV hV'
          have HS2 := hide hS2'
          clear hS2'
          go_wp2_with fail
          refine (Code.text_of l A n c HL.out HW.out (by omega) w3 hS3.i1 (few_up ZL.out (by decide)) ⟨#[]⟩ 1 HT1.out).mono ?_
          rintro e w11 ⟨rfl, hx11⟩
          have hS11 := hS3.below hx11
          have hb11 := bnext hb3 hx11
          clear hS3 hb3 hx11
          try clear hc1
          try clear hc2
          have hc1 := iCells0 hS11.r1
          have hc2 := iCells0 hS11.r2
          go_wp2_with fail
          refine (Code.text_of l' A' n' c' HL'.out HW'.out (by omega) w11 hS11.i2 (few_up ZL'.out (by decide)) S2 0 HT2.out).mono ?_
          rintro e w12 ⟨rfl, hx12⟩
          have hS12 := hS11.below hx12
          have hb12 := bnext hb11 hx12
          clear hS11 hb11 hx12
          try clear hc1
          try clear hc2
          have hc1 := iCells0 hS12.r1
          have hc2 := iCells0 hS12.r2
          go_wp2_with fail
          refine (Code.valid_of l A n c HL.out HW.out (by omega) w12 hS12.i1 false HV.out).mono ?_
          rintro e w13 ⟨rfl, hx13⟩
          have hS13 := hS12.below hx13
          have hb13 := bnext hb12 hx13
          clear hS12 hb12 hx13
          try clear hc1
          try clear hc2
          have hc1 := iCells0 hS13.r1
          have hc2 := iCells0 hS13.r2
          go_wp2_with fail
          refine (Code.parse_of ⟨#[]⟩ (by decide) (parse_small (by decide)) w13 (HM.out.next hb13) [] 0 parse_empty).mono ?_
          rintro e w14 ⟨⟨AX, cX, rfl, hcX, hIX⟩, hx14⟩
          have hS14 := hS13.below hx14
          have hb14 := bnext hb13 hx14
          clear hS13 hb13 hx14
          rw [List.length_nil] at hcX ⊢
          have hn15 := Below.news (Below.refl w14.heap.size w14) (.cells #[.slice AX 0 cX] 24)
          have hrX := heap_alloc_new w14 (.cells #[.slice AX 0 cX] 24)
          have hIX2 := hIX.keep hn15
          have hS15 := hS14.below hn15
          have hb15 := bnext hb14 hn15
          clear hS14 hb14 hIX hn15
          try clear hc1
          try clear hc2
          try clear hc1
          try clear hc2
          have hc1 := iCells0 hS15.r1
          have hc2 := iCells0 hS15.r2
          go_wp2_with fail
          generalize w14.alloc (.cells #[.slice AX 0 cX] 24) = w15 at *
          clear hrX hIX2
          obtain ⟨Y, H, hY⟩ : ∃ Y H, Dg.parseO t = (Y, H) := ⟨_, _, rfl⟩
          obtain ⟨k, hk⟩ : ∃ k, Y.length = k := ⟨_, rfl⟩
          have HY := hide hY; have HK := hide hk
          clear hY hk
          refine (Code.parse_of t (by omega) (parse_small (by omega)) w15 (HM.out.next hb15) Y H HY.out).mono ?_
          rintro e w16 ⟨⟨AY, cY, rfl, hcY, hIY⟩, hx16⟩
          have hS16 := hS15.below hx16
          have hb16 := bnext hb15 hx16
          clear hS15 hb15 hx16
          rw [HK.out] at hcY ⊢
          have hn17 := Below.news (Below.refl w16.heap.size w16) (.cells #[.slice AY k cY] 24)
          have hrY := heap_alloc_new w16 (.cells #[.slice AY k cY] 24)
          have hIY2 := hIY.keep hn17
          have hS17 := hS16.below hn17
          have hb17 := bnext hb16 hn17
          clear hS16 hb16 hIY hn17
          by_cases hH : H = 0
          · subst hH
            have hok := Dg.texts_ok HY.out
            rcases hok with ⟨_, hvY, hTY⟩ | ⟨h0, _⟩
            case inr => exact absurd rfl h0
            have hYp : Y = Dg.parseP (Dg.L t) := by
              have h9 := HY.out
              unfold Dg.parseO at h9
              rw [if_neg (by omega)] at h9
              split at h9
              · injection h9 with h1 _; exact h1.symm
              · injection h9 with _ h2; exact absurd h2 (by decide)
            have hzY : ∀ x ∈ Y, ∀ s ∈ Dg.fieldsI x, s.size ≤ 10000 := by rw [hYp]; exact parse_small (by omega)
            have hwY : ∀ x ∈ Y, ItW x := items_w (by rw [hYp]; exact parse_kinds _) hzY
            have hkY : k ≤ 2000 := by rw [← HK.out]; exact Dg.good_len hvY
            have HZY := hide hzY; have HWY := hide hwY; have HVY := hide hvY; have HTY := hide hTY
            clear hYp hzY hwY hvY hTY hc1 hc2
            go_wp2_with fail
            generalize w16.alloc (.cells #[.slice AY k cY] 24) = w17 at *
            generalize w16.heap.size = bY at *
            have hcYc := iCells0 hrY
            refine (Code.text_of Y AY k cY HK.out HWY.out (by omega) w17 hIY2 HZY.out t 0 HTY.out).mono ?_
            rintro e wt ⟨rfl, hxt⟩
            have hrY3 := iNext hrY hxt
            have hIY3 := hIY2.keep hxt
            have hbt := bnext hb17 hxt
            clear hrY hIY2 hb17 hS17 hxt hcYc
            have hcYc := iCells0 hrY3
            have eqT : (t.toList == t.toList) = true := beq_self_eq_true _
            go_wp2_with fail
            refine (Code.valid_of Y AY k cY HK.out HWY.out (by omega) wt hIY3 true HVY.out).mono ?_
            rintro e wv ⟨rfl, hxv⟩
            have hbv := bnext hbt hxv
            go_wp2
            go_ret
            exact ⟨rfl, hbv⟩
          · have h5 := Dg.texts_err (by omega) HY.out
            rcases h5 with h5 | ⟨h5, h6⟩
            · exact absurd h5 hH
            have hk0 := HK.out
            rw [h6] at hk0
            subst h5
            obtain rfl : k = 0 := hk0.symm
            clear hc1 hc2 hH
            have hcYc := iCells0 hrY
            go_wp2
            go_ret
            exact ⟨rfl, hb17⟩
      | true =>
        cases V' with
        | false =>
          obtain ⟨S1, hS1⟩ : ∃ S, Dg.B (Dg.textL l) = S := ⟨_, rfl⟩
          have hT1 := textC_few hV HF.out.1
          rw [hS1] at hT1
          have hT2 : Dg.textC l' = (⟨#[]⟩, 1) := by unfold Dg.textC; rw [hV']; rfl
          have HT1 := hide hT1; have HT2 := hide hT2; have HV := hide hV; have HV' := hide hV'
          clear hT1 hT2 hV hV'
          have HS1 := hide hS1
          clear hS1
          go_wp2_with fail
          refine (Code.text_of l A n c HL.out HW.out (by omega) w3 hS3.i1 (few_up ZL.out (by decide)) S1 0 HT1.out).mono ?_
          rintro e w18 ⟨rfl, hx18⟩
          have hS18 := hS3.below hx18
          have hb18 := bnext hb3 hx18
          clear hS3 hb3 hx18
          try clear hc1
          try clear hc2
          have hc1 := iCells0 hS18.r1
          have hc2 := iCells0 hS18.r2
          go_wp2_with fail
          refine (Code.text_of l' A' n' c' HL'.out HW'.out (by omega) w18 hS18.i2 (few_up ZL'.out (by decide)) ⟨#[]⟩ 1 HT2.out).mono ?_
          rintro e w19 ⟨rfl, hx19⟩
          have hS19 := hS18.below hx19
          have hb19 := bnext hb18 hx19
          clear hS18 hb18 hx19
          try clear hc1
          try clear hc2
          have hc1 := iCells0 hS19.r1
          have hc2 := iCells0 hS19.r2
          go_wp2_with fail
          refine (Code.valid_of l A n c HL.out HW.out (by omega) w19 hS19.i1 true HV.out).mono ?_
          rintro e w20 ⟨rfl, hx20⟩
          have hS20 := hS19.below hx20
          have hb20 := bnext hb19 hx20
          clear hS19 hb19 hx20
          try clear hc1
          try clear hc2
          have hc1 := iCells0 hS20.r1
          have hc2 := iCells0 hS20.r2
          have hP1 : Dg.parseO S1 = (l, 0) := by rw [← HS1.out]; exact Dg.texts_back HV.out (by have := HX.out; omega)
          have hPP : Dg.parseP (Dg.L S1) = l := by rw [← HS1.out, Dg.L_B]; exact Dg.parse_text HV.out
          have hSz : S1.size ≤ 1000000 := by rw [← HS1.out, ← Dg.len_L, Dg.L_B]; have := HX.out; omega
          have HP1 := hide hP1; have HPP := hide hPP
          clear hP1 hPP
          go_wp2_with fail
          refine (Code.parse_of S1 (hSz) (by rw [HPP.out]; exact few_up ZL.out (by decide)) w20 (HM.out.next hb20) l 0 HP1.out).mono ?_
          rintro e w21 ⟨⟨AX, cX, rfl, hcX, hIX⟩, hx21⟩
          have hS21 := hS20.below hx21
          have hb21 := bnext hb20 hx21
          clear hS20 hb20 hx21
          rw [HL.out] at hcX ⊢
          have hn22 := Below.news (Below.refl w21.heap.size w21) (.cells #[.slice AX n cX] 24)
          have hrX := heap_alloc_new w21 (.cells #[.slice AX n cX] 24)
          have hIX2 := hIX.keep hn22
          have hS22 := hS21.below hn22
          have hb22 := bnext hb21 hn22
          clear hS21 hb21 hIX hn22
          try clear hc1
          try clear hc2
          try clear hc1
          try clear hc2
          have hc1 := iCells0 hS22.r1
          have hc2 := iCells0 hS22.r2
          go_upto_region 9 with (fail)
          generalize w21.alloc (.cells #[.slice AX n cX] 24) = w22 at *
          generalize w21.heap.size = bX at *
          have hcXc := iCells0 hrX
          try clear hc1
          try clear hc2
          have hc1 := iCells0 hS22.r1
          have hc2 := iCells0 hS22.r2
          go_wp2_with fail
          refine (same18_of l l AX A n cX n c HL.out HL.out hn hn w22 hIX2 hS22.i1 true (by simp)).mono ?_
          rintro e w23 ⟨rfl, hx23⟩
          have hS23 := hS22.below hx23
          have hb23 := bnext hb22 hx23
          clear hS22 hb22 hx23
          try clear hc1
          try clear hc2
          have hc1 := iCells0 hS23.r1
          have hc2 := iCells0 hS23.r2
          clear hIX2 hrX hcXc
          go_wp2_with fail
          obtain ⟨Y, H, hY⟩ : ∃ Y H, Dg.parseO t = (Y, H) := ⟨_, _, rfl⟩
          obtain ⟨k, hk⟩ : ∃ k, Y.length = k := ⟨_, rfl⟩
          have HY := hide hY; have HK := hide hk
          clear hY hk
          refine (Code.parse_of t (by omega) (parse_small (by omega)) w23 (HM.out.next hb23) Y H HY.out).mono ?_
          rintro e w24 ⟨⟨AY, cY, rfl, hcY, hIY⟩, hx24⟩
          have hS24 := hS23.below hx24
          have hb24 := bnext hb23 hx24
          clear hS23 hb23 hx24
          rw [HK.out] at hcY ⊢
          have hn25 := Below.news (Below.refl w24.heap.size w24) (.cells #[.slice AY k cY] 24)
          have hrY := heap_alloc_new w24 (.cells #[.slice AY k cY] 24)
          have hIY2 := hIY.keep hn25
          have hS25 := hS24.below hn25
          have hb25 := bnext hb24 hn25
          clear hS24 hb24 hIY hn25
          by_cases hH : H = 0
          · subst hH
            have hok := Dg.texts_ok HY.out
            rcases hok with ⟨_, hvY, hTY⟩ | ⟨h0, _⟩
            case inr => exact absurd rfl h0
            have hYp : Y = Dg.parseP (Dg.L t) := by
              have h9 := HY.out
              unfold Dg.parseO at h9
              rw [if_neg (by omega)] at h9
              split at h9
              · injection h9 with h1 _; exact h1.symm
              · injection h9 with _ h2; exact absurd h2 (by decide)
            have hzY : ∀ x ∈ Y, ∀ s ∈ Dg.fieldsI x, s.size ≤ 10000 := by rw [hYp]; exact parse_small (by omega)
            have hwY : ∀ x ∈ Y, ItW x := items_w (by rw [hYp]; exact parse_kinds _) hzY
            have hkY : k ≤ 2000 := by rw [← HK.out]; exact Dg.good_len hvY
            have HZY := hide hzY; have HWY := hide hwY; have HVY := hide hvY; have HTY := hide hTY
            clear hYp hzY hwY hvY hTY hc1 hc2
            go_wp2_with fail
            generalize w24.alloc (.cells #[.slice AY k cY] 24) = w25 at *
            generalize w24.heap.size = bY at *
            have hcYc := iCells0 hrY
            refine (Code.text_of Y AY k cY HK.out HWY.out (by omega) w25 hIY2 HZY.out t 0 HTY.out).mono ?_
            rintro e wt ⟨rfl, hxt⟩
            have hrY3 := iNext hrY hxt
            have hIY3 := hIY2.keep hxt
            have hbt := bnext hb25 hxt
            clear hrY hIY2 hb25 hS25 hxt hcYc
            have hcYc := iCells0 hrY3
            have eqT : (t.toList == t.toList) = true := beq_self_eq_true _
            go_wp2_with fail
            refine (Code.valid_of Y AY k cY HK.out HWY.out (by omega) wt hIY3 true HVY.out).mono ?_
            rintro e wv ⟨rfl, hxv⟩
            have hbv := bnext hbt hxv
            go_wp2
            go_ret
            exact ⟨rfl, hbv⟩
          · have h5 := Dg.texts_err (by omega) HY.out
            rcases h5 with h5 | ⟨h5, h6⟩
            · exact absurd h5 hH
            have hk0 := HK.out
            rw [h6] at hk0
            subst h5
            obtain rfl : k = 0 := hk0.symm
            clear hc1 hc2 hH
            have hcYc := iCells0 hrY
            go_wp2
            go_ret
            exact ⟨rfl, hb25⟩
        | true =>
          obtain ⟨S1, hS1⟩ : ∃ S, Dg.B (Dg.textL l) = S := ⟨_, rfl⟩
          have hT1 := textC_few hV HF.out.1
          rw [hS1] at hT1
          obtain ⟨S2, hS2'⟩ : ∃ S, Dg.B (Dg.textL l') = S := ⟨_, rfl⟩
          have hT2 := textC_few hV' HF.out.2
          rw [hS2'] at hT2
          have HT1 := hide hT1; have HT2 := hide hT2; have HV := hide hV; have HV' := hide hV'
          clear hT1 hT2 hV hV'
          have HS1 := hide hS1
          clear hS1
          have HS2 := hide hS2'
          clear hS2'
          go_wp2_with fail
          refine (Code.text_of l A n c HL.out HW.out (by omega) w3 hS3.i1 (few_up ZL.out (by decide)) S1 0 HT1.out).mono ?_
          rintro e w26 ⟨rfl, hx26⟩
          have hS26 := hS3.below hx26
          have hb26 := bnext hb3 hx26
          clear hS3 hb3 hx26
          try clear hc1
          try clear hc2
          have hc1 := iCells0 hS26.r1
          have hc2 := iCells0 hS26.r2
          go_wp2_with fail
          refine (Code.text_of l' A' n' c' HL'.out HW'.out (by omega) w26 hS26.i2 (few_up ZL'.out (by decide)) S2 0 HT2.out).mono ?_
          rintro e w27 ⟨rfl, hx27⟩
          have hS27 := hS26.below hx27
          have hb27 := bnext hb26 hx27
          clear hS26 hb26 hx27
          try clear hc1
          try clear hc2
          have hc1 := iCells0 hS27.r1
          have hc2 := iCells0 hS27.r2
          go_wp2_with fail
          refine (Code.valid_of l A n c HL.out HW.out (by omega) w27 hS27.i1 true HV.out).mono ?_
          rintro e w28 ⟨rfl, hx28⟩
          have hS28 := hS27.below hx28
          have hb28 := bnext hb27 hx28
          clear hS27 hb27 hx28
          try clear hc1
          try clear hc2
          have hc1 := iCells0 hS28.r1
          have hc2 := iCells0 hS28.r2
          have hP1 : Dg.parseO S1 = (l, 0) := by rw [← HS1.out]; exact Dg.texts_back HV.out (by have := HX.out; omega)
          have hPP : Dg.parseP (Dg.L S1) = l := by rw [← HS1.out, Dg.L_B]; exact Dg.parse_text HV.out
          have hSz : S1.size ≤ 1000000 := by rw [← HS1.out, ← Dg.len_L, Dg.L_B]; have := HX.out; omega
          have HP1 := hide hP1; have HPP := hide hPP
          clear hP1 hPP
          go_wp2_with fail
          refine (Code.parse_of S1 (hSz) (by rw [HPP.out]; exact few_up ZL.out (by decide)) w28 (HM.out.next hb28) l 0 HP1.out).mono ?_
          rintro e w29 ⟨⟨AX, cX, rfl, hcX, hIX⟩, hx29⟩
          have hS29 := hS28.below hx29
          have hb29 := bnext hb28 hx29
          clear hS28 hb28 hx29
          rw [HL.out] at hcX ⊢
          have hn30 := Below.news (Below.refl w29.heap.size w29) (.cells #[.slice AX n cX] 24)
          have hrX := heap_alloc_new w29 (.cells #[.slice AX n cX] 24)
          have hIX2 := hIX.keep hn30
          have hS30 := hS29.below hn30
          have hb30 := bnext hb29 hn30
          clear hS29 hb29 hIX hn30
          try clear hc1
          try clear hc2
          try clear hc1
          try clear hc2
          have hc1 := iCells0 hS30.r1
          have hc2 := iCells0 hS30.r2
          go_upto_region 9 with (fail)
          generalize w29.alloc (.cells #[.slice AX n cX] 24) = w30 at *
          generalize w29.heap.size = bX at *
          have hcXc := iCells0 hrX
          try clear hc1
          try clear hc2
          have hc1 := iCells0 hS30.r1
          have hc2 := iCells0 hS30.r2
          go_wp2_with fail
          refine (same18_of l l AX A n cX n c HL.out HL.out hn hn w30 hIX2 hS30.i1 true (by simp)).mono ?_
          rintro e w31 ⟨rfl, hx31⟩
          have hS31 := hS30.below hx31
          have hb31 := bnext hb30 hx31
          clear hS30 hb30 hx31
          try clear hc1
          try clear hc2
          have hc1 := iCells0 hS31.r1
          have hc2 := iCells0 hS31.r2
          clear hIX2 hrX hcXc
          by_cases hll : l = l'
          · have hSS : (S1.toList == S2.toList) = true := str_yes (by rw [← HS1.out, ← HS2.out, hll])
            go_wp2_with fail
            refine (same18_of l l' A A' n c n' c' HL.out HL'.out hn hn' w31 hS31.i1 hS31.i2 true (by simp [hll])).mono ?_
            rintro e w32 ⟨rfl, hx32⟩
            have hS32 := hS31.below hx32
            have hb32 := bnext hb31 hx32
            clear hS31 hb31 hx32
            try clear hc1
            try clear hc2
            have hc1 := iCells0 hS32.r1
            have hc2 := iCells0 hS32.r2
            go_wp2_with fail
            obtain ⟨Y, H, hY⟩ : ∃ Y H, Dg.parseO t = (Y, H) := ⟨_, _, rfl⟩
            obtain ⟨k, hk⟩ : ∃ k, Y.length = k := ⟨_, rfl⟩
            have HY := hide hY; have HK := hide hk
            clear hY hk
            refine (Code.parse_of t (by omega) (parse_small (by omega)) w32 (HM.out.next hb32) Y H HY.out).mono ?_
            rintro e w33 ⟨⟨AY, cY, rfl, hcY, hIY⟩, hx33⟩
            have hS33 := hS32.below hx33
            have hb33 := bnext hb32 hx33
            clear hS32 hb32 hx33
            rw [HK.out] at hcY ⊢
            have hn34 := Below.news (Below.refl w33.heap.size w33) (.cells #[.slice AY k cY] 24)
            have hrY := heap_alloc_new w33 (.cells #[.slice AY k cY] 24)
            have hIY2 := hIY.keep hn34
            have hS34 := hS33.below hn34
            have hb34 := bnext hb33 hn34
            clear hS33 hb33 hIY hn34
            by_cases hH : H = 0
            · subst hH
              have hok := Dg.texts_ok HY.out
              rcases hok with ⟨_, hvY, hTY⟩ | ⟨h0, _⟩
              case inr => exact absurd rfl h0
              have hYp : Y = Dg.parseP (Dg.L t) := by
                have h9 := HY.out
                unfold Dg.parseO at h9
                rw [if_neg (by omega)] at h9
                split at h9
                · injection h9 with h1 _; exact h1.symm
                · injection h9 with _ h2; exact absurd h2 (by decide)
              have hzY : ∀ x ∈ Y, ∀ s ∈ Dg.fieldsI x, s.size ≤ 10000 := by rw [hYp]; exact parse_small (by omega)
              have hwY : ∀ x ∈ Y, ItW x := items_w (by rw [hYp]; exact parse_kinds _) hzY
              have hkY : k ≤ 2000 := by rw [← HK.out]; exact Dg.good_len hvY
              have HZY := hide hzY; have HWY := hide hwY; have HVY := hide hvY; have HTY := hide hTY
              clear hYp hzY hwY hvY hTY hc1 hc2
              go_wp2_with fail
              generalize w33.alloc (.cells #[.slice AY k cY] 24) = w34 at *
              generalize w33.heap.size = bY at *
              have hcYc := iCells0 hrY
              refine (Code.text_of Y AY k cY HK.out HWY.out (by omega) w34 hIY2 HZY.out t 0 HTY.out).mono ?_
              rintro e wt ⟨rfl, hxt⟩
              have hrY3 := iNext hrY hxt
              have hIY3 := hIY2.keep hxt
              have hbt := bnext hb34 hxt
              clear hrY hIY2 hb34 hS34 hxt hcYc
              have hcYc := iCells0 hrY3
              have eqT : (t.toList == t.toList) = true := beq_self_eq_true _
              go_wp2_with fail
              refine (Code.valid_of Y AY k cY HK.out HWY.out (by omega) wt hIY3 true HVY.out).mono ?_
              rintro e wv ⟨rfl, hxv⟩
              have hbv := bnext hbt hxv
              go_wp2
              go_ret
              exact ⟨rfl, hbv⟩
            · have h5 := Dg.texts_err (by omega) HY.out
              rcases h5 with h5 | ⟨h5, h6⟩
              · exact absurd h5 hH
              have hk0 := HK.out
              rw [h6] at hk0
              subst h5
              obtain rfl : k = 0 := hk0.symm
              clear hc1 hc2 hH
              have hcYc := iCells0 hrY
              go_wp2
              go_ret
              exact ⟨rfl, hb34⟩
          · have hSS : (S1.toList == S2.toList) = false := str_no (fun e => hll (text_inj HV.out HV'.out (by rw [HS1.out, HS2.out]; exact e)))
            go_wp2_with fail
            refine (same18_of l l' A A' n c n' c' HL.out HL'.out hn hn' w31 hS31.i1 hS31.i2 false (by simp [hll])).mono ?_
            rintro e w35 ⟨rfl, hx35⟩
            have hS35 := hS31.below hx35
            have hb35 := bnext hb31 hx35
            clear hS31 hb31 hx35
            try clear hc1
            try clear hc2
            have hc1 := iCells0 hS35.r1
            have hc2 := iCells0 hS35.r2
            go_wp2_with fail
            obtain ⟨Y, H, hY⟩ : ∃ Y H, Dg.parseO t = (Y, H) := ⟨_, _, rfl⟩
            obtain ⟨k, hk⟩ : ∃ k, Y.length = k := ⟨_, rfl⟩
            have HY := hide hY; have HK := hide hk
            clear hY hk
            refine (Code.parse_of t (by omega) (parse_small (by omega)) w35 (HM.out.next hb35) Y H HY.out).mono ?_
            rintro e w36 ⟨⟨AY, cY, rfl, hcY, hIY⟩, hx36⟩
            have hS36 := hS35.below hx36
            have hb36 := bnext hb35 hx36
            clear hS35 hb35 hx36
            rw [HK.out] at hcY ⊢
            have hn37 := Below.news (Below.refl w36.heap.size w36) (.cells #[.slice AY k cY] 24)
            have hrY := heap_alloc_new w36 (.cells #[.slice AY k cY] 24)
            have hIY2 := hIY.keep hn37
            have hS37 := hS36.below hn37
            have hb37 := bnext hb36 hn37
            clear hS36 hb36 hIY hn37
            by_cases hH : H = 0
            · subst hH
              have hok := Dg.texts_ok HY.out
              rcases hok with ⟨_, hvY, hTY⟩ | ⟨h0, _⟩
              case inr => exact absurd rfl h0
              have hYp : Y = Dg.parseP (Dg.L t) := by
                have h9 := HY.out
                unfold Dg.parseO at h9
                rw [if_neg (by omega)] at h9
                split at h9
                · injection h9 with h1 _; exact h1.symm
                · injection h9 with _ h2; exact absurd h2 (by decide)
              have hzY : ∀ x ∈ Y, ∀ s ∈ Dg.fieldsI x, s.size ≤ 10000 := by rw [hYp]; exact parse_small (by omega)
              have hwY : ∀ x ∈ Y, ItW x := items_w (by rw [hYp]; exact parse_kinds _) hzY
              have hkY : k ≤ 2000 := by rw [← HK.out]; exact Dg.good_len hvY
              have HZY := hide hzY; have HWY := hide hwY; have HVY := hide hvY; have HTY := hide hTY
              clear hYp hzY hwY hvY hTY hc1 hc2
              go_wp2_with fail
              generalize w36.alloc (.cells #[.slice AY k cY] 24) = w37 at *
              generalize w36.heap.size = bY at *
              have hcYc := iCells0 hrY
              refine (Code.text_of Y AY k cY HK.out HWY.out (by omega) w37 hIY2 HZY.out t 0 HTY.out).mono ?_
              rintro e wt ⟨rfl, hxt⟩
              have hrY3 := iNext hrY hxt
              have hIY3 := hIY2.keep hxt
              have hbt := bnext hb37 hxt
              clear hrY hIY2 hb37 hS37 hxt hcYc
              have hcYc := iCells0 hrY3
              have eqT : (t.toList == t.toList) = true := beq_self_eq_true _
              go_wp2_with fail
              refine (Code.valid_of Y AY k cY HK.out HWY.out (by omega) wt hIY3 true HVY.out).mono ?_
              rintro e wv ⟨rfl, hxv⟩
              have hbv := bnext hbt hxv
              go_wp2
              go_ret
              exact ⟨rfl, hbv⟩
            · have h5 := Dg.texts_err (by omega) HY.out
              rcases h5 with h5 | ⟨h5, h6⟩
              · exact absurd h5 hH
              have hk0 := HK.out
              rw [h6] at hk0
              subst h5
              obtain rfl : k = 0 := hk0.symm
              clear hc1 hc2 hH
              have hcYc := iCells0 hrY
              go_wp2
              go_ret
              exact ⟨rfl, hb37⟩
end Go.Proofs.YtpldhempbdionaaGreatDoor
/- The world's shape handed to a law; a number of the library's holds some int. No conditions. -/
namespace Go.Proofs.YtpldhempbdionaaGreatDoor
open Go Go.RowKit
theorem handed_shaped {H : Type} {enc : TypeId × Value → H} {a : Assume} {C : Checked} {os : Os} {f : FuncId} {fn : Func} {s : ChangeSpec} {conds : List PathCond} {apart fresh handsOn again : Bool} {X : World → Array Value → Prop}
    (hX : ∀ (w w' : World) (args : Array Value), w.heap = w'.heap → X w args → X w' args)
    (own : ownKnob C.prog.godebug = none) (started : os.Started) (noInit : C.prog.inits.idxOf? f = none) (hfn : C.prog.funcs[f]? = some fn)
    (witness : ∃ (w : World) (tape : Tape) (i : Input), w.os = os ∧ (w.forCall tape i).Shaped C.prog ∧ i.vars = [] ∧ Input.okWide C.prog (w.forCall tape i) .any w.heap.size f i ∧
      ((s.pre enc C.prog fn conds apart (w.forCall tape i).memory i.args ∧ X (w.forCall tape i).memory i.args) ∧ sizedMet enc C.prog fn (OpenSpec.ofChange s) apart (w.forCall tape i).memory i.args) ∧ a.holds C.prog (lone (Frame.enter C.prog f i.args .normal) [] (w.forCall tape i)))
    (contract : ∀ (W : World) (base : Nat) (args : Array Value) (ds gs : List (DataW H)) (before : List MemPlace),
      (∀ (j : Nat) t v, fn.params[j]? = some t → args[j]? = some v → Value.okWide C.prog W .any base t v) →
      DataW.Whole enc C.prog fn.params.toList s.vars apart W args.toList ds gs before →
      conds.all (PathCond.test C.prog ⟨fn.params.toList, ds, s.plain.varTypes C.prog, gs⟩) = true →
      (DataW.weightsEach C.prog (fn.params.toList ++ s.plain.varTypes C.prog) (ds ++ gs)).all (· ≤ reachBytes) = true → X W args → W.ShapedOpen C.prog →
      a.holds C.prog (lone (Frame.enter C.prog f args .normal) [] W) →
      Calls C.prog f args W fun e W' => ∃ v, e = .returned v ∧ s.post enc C.prog fn apart fresh handsOn again W args v W') :
    ReturnsInHanded a C os f .any (fun w args => (s.pre enc C.prog fn conds apart w args ∧ X w args) ∧ sizedMet enc C.prog fn (OpenSpec.ofChange s) apart w args) (s.post enc C.prog fn apart fresh handsOn again) := by
  refine returnsInHanded_of_calls own started noInit witness ?_
  intro w tape i _ hsh _ hok hpre hholds
  obtain ⟨_, _, _, fn', hfn', _, _, _, _, hval⟩ := hok
  obtain rfl : fn' = fn := Option.some.inj (hfn'.symm.trans hfn)
  obtain ⟨⟨⟨ds, gs, before, hw, hc⟩, hx⟩, hz⟩ := hpre
  have hw' := DataW.Whole.of_heap (w' := w.forCall tape i) (by rfl) hw
  refine (contract (w.forCall tape i) w.heap.size i.args ds gs before hval hw' hc (hz.weights hw) (hX _ _ _ (by rfl) hx) hsh hholds).mono fun e W' ⟨v, he, hp⟩ => ?_
  subst he
  exact ChangeSpec.post_blind hp
theorem maxI_of {W : World} (h : W.ShapedOpen Tryz.prog) : MaxI W :=
  cell_of_shapedOpen_int (t := 3) (zero := #[.int .i64 0]) h (by decide +kernel) (by kernel_rfl) rfl (by kernel_rfl) (by kernel_rfl) Tryz.underlying3
end Go.Proofs.YtpldhempbdionaaGreatDoor
/- The last step of each law's row: the result is true, and each argument reads as it did. No conditions. -/
namespace Go.Proofs.YtpldhempbdionaaGreatDoor
open Go Go.RowKit Go.ChangeShapes Go.WideShapes Go.ChangeAt
section
variable {H : Type} {enc : TypeId × Value → H} {P : Program}
theorem trodAll_later (hl : laidOutB P = true) {W W' : World} (hb : Below W.heap.size W W') : ∀ {ts : List TypeId} {vs : List Value} {ds : List (DataW H)} {ps : List MemPlace},
    (∀ t ∈ ts, P.readableRec t = true ∧ t < P.types.size) → (∀ x ∈ ps, x.block < W.heap.size) → DataW.TrodAll enc P W 0 (fun _ => true) true ts vs ds ps → DataW.TrodAll enc P W' 0 (fun b => decide (b < W.heap.size)) true ts vs ds ps
  | [], vs, ds, ps, _, _, h => by
    obtain ⟨rfl, rfl, rfl⟩ := trodAll_nil h
    exact trodAll_mk0
  | t :: ts, vs, ds, ps, hts, hlt, h => by
    obtain ⟨v, vs', d, ds', p, q, rfl, rfl, rfl, hv, hr⟩ := trodAll_cons h
    obtain ⟨h1, h2⟩ := hts t (List.mem_cons_self ..)
    exact trodAll_cons_mk (Below.trod hl h1 h2 hv hb fun x hx => hlt x (List.mem_append_left _ hx))
      (trodAll_later hl hb (fun t' ht' => hts t' (List.mem_cons_of_mem _ ht')) (fun x hx => hlt x (List.mem_append_right _ hx)) hr)
theorem law_post (hl : laidOutB P = true) {f : Func} {s : ChangeSpec} (hv : s.vars = []) {tb : TypeId} (hrt : f.resultTypes = #[tb]) (htb : P.underlying tb = some .bool)
    (hts : (f.params.toList.all fun t => P.readableRec t && decide (t < P.types.size)) = true) {W W' : World} {args : Array Value} {ds gs : List (DataW H)} {before : List MemPlace}
    (hW : DataW.Whole enc P f.params.toList s.vars false W args.toList ds gs before) (hfn : s.fn H (ds ++ gs) = { results := [.lit (.bool true)], args := ds }) (hb : Below W.heap.size W W') :
    s.post enc P f false true false false W args (.bool true) W' := by
  have hlt : ∀ p ∈ before, p.block < W.heap.size := fun p hp => hW.lt p hp
  have hW' := hW
  obtain ⟨p, q, hA, hV, rfl, _, _⟩ := hW
  refine ⟨ds, gs, p ++ q, [], p, [], hW', ?_, ?_, ?_, hb.frame _, fun h => by cases h⟩
  · rw [hfn, hrt]
    exact trodAll_mk1 (shut_bool htb true)
  · rw [hfn]
    exact trodAll_later hl hb (fun t ht => by have := List.all_eq_true.1 hts t ht; simpa using this) (fun x hx => hlt x (List.mem_append_left _ hx)) hA
  · rw [hfn, hv]
    exact rfl
end
end Go.Proofs.YtpldhempbdionaaGreatDoor
/- The arguments of the laws, opened: strings, small numbers, slices of strings. No conditions. -/
namespace Go.Proofs.YtpldhempbdionaaGreatDoor
open Go Go.RowKit Go.ChangeShapes Go.WideShapes Go.ChangeAt Go.WideMaps Go.WideElems
open Go.ChangeMaps (open_string)
theorem laid_mem {P : Program} {w : World} {n : String} {d : DataW Unit} : ∀ {l : List (String × DataW Unit)} {ps : List MemPlace}, (n, d) ∈ l → DataW.LaidVars P w l ps →
    ∃ g t cs fuel p, P.globalNamed n = some g ∧ (P.globals[g]?).map (·.type) = some t ∧ w.var? P n = some cs ∧ DataW.trod (fun _ => ()) P w 0 (fun _ => true) false fuel t cs.toList = some (d, p)
  | [], _, hm, _ => by cases hm
  | x :: r, ps, hm, h => by
    obtain ⟨g, t, cs, fuel, p, q, h1, h2, h3, h4, h5, _⟩ := h
    rcases List.mem_cons.1 hm with hx | hx
    · subst hx
      exact ⟨g, t, cs, fuel, p, h1, h2, h3, h4⟩
    · exact laid_mem hx h5
theorem env_of_laid {W : World} {l : List (String × DataW Unit)} (hp : (l.all fun x => x.2.handleName?.isNone) = true) (hm : ("internal/strconv.uint64pow10", Lib.tabData .u64 Lib.pow10Tab) ∈ l) (h : laidMetH Tryz.prog l W) : Env W := by
  rw [MakeChecks.laidMetH_plain _ _ _ hp] at h
  obtain ⟨ps, hl, _⟩ := h
  obtain ⟨g, t, cs, fuel, p, hg, ht, hvar, hd⟩ := laid_mem hm hl
  obtain rfl := Option.some.inj (gPow.symm.trans hg)
  obtain rfl := Option.some.inj ((show (Tryz.prog.globals[3]?).map (·.type) = some 170 by kernel_rfl).symm.trans ht)
  unfold Env Lib.TabIs
  rw [hvar, ← Lib.cells_of_tab Tryz.underlying170 Tryz.underlying58 (by kernel_rfl) (by kernel_rfl) hd]
section
variable {H : Type} {enc : TypeId × Value → H}
theorem addr_of_cell {w : World} {a : Addr} {v : Value} (h : w.cell? a = some v) : a = ⟨a.block, a.off, none⟩ ∧ a.block < w.heap.size := by
  refine ⟨?_, block_lt_of_cell h⟩
  obtain ⟨b, off, sp⟩ := a
  cases sp with
  | none => rfl
  | some k =>
    exfalso
    unfold World.cell? at h
    simp at h
    split at h <;> simp at h
theorem add_plain (b off j : Nat) : (⟨b, off, none⟩ : Addr).add j = ⟨b, off + j, none⟩ := by
  unfold Addr.add
  by_cases h : j = 0
  · rw [if_pos h, h, Nat.add_zero]
  · rw [if_neg h]
end
end Go.Proofs.YtpldhempbdionaaGreatDoor
/- A seal that came in, opened. No conditions. -/
namespace Go.Proofs.YtpldhempbdionaaGreatDoor
open Go Go.RowKit Go.ChangeShapes Go.WideShapes Go.ChangeAt Go.WideMaps Go.WideElems Go.Joins
variable {H : Type} {enc : TypeId × Value → H}
theorem cellsStr : Tryz.prog.cellsOf 9 = 1 := by kernel_rfl
end Go.Proofs.YtpldhempbdionaaGreatDoor
/- Codes that came in, opened. No conditions. -/
namespace Go.Proofs.YtpldhempbdionaaGreatDoor
open Go Go.RowKit Go.ChangeShapes Go.WideShapes Go.ChangeAt Go.WideMaps Go.WideElems Go.Joins Go.Deep
variable {H : Type} {enc : TypeId × Value → H}
theorem cIntC : Tryz.prog.cellsOf 3 = 1 := by kernel_rfl
theorem cBoolC : Tryz.prog.cellsOf 4 = 1 := by kernel_rfl
theorem cItem : Tryz.prog.cellsOf 31 = 7 := by kernel_rfl
theorem cItems : Tryz.prog.cellsOf 22 = 1 := by kernel_rfl
theorem cCode : Tryz.prog.cellsOf 24 = 1 := by kernel_rfl
set_option maxRecDepth 100000 in
/-- The cells of an item that came in. -/
theorem trod_item {W : World} {k : Nat} {cs : List Value} {x : DataW H × List MemPlace} (h : DataW.trod enc Tryz.prog W 0 (fun _ => true) true k 31 cs = some x) :
    ∃ v : Dg.It, cs = (itV v).toList ∧ ItW v := by
  obtain ⟨xs, n, _, _, hlen, hxl, hf⟩ := DataW.trod_struct Tryz.underlying31 h
  rw [cItem] at hlen
  match cs, hlen with
  | [c0, c1, c2, c3, c4, c5, c6], _ =>
    match xs, hxl with
    | [y0, y1, y2, y3, y4, y5, y6], _ =>
      have f0 : DataW.trod enc Tryz.prog W 0 (fun _ => true) true n 3 [c0] = some y0 := by simpa [cIntC] using hf 0 _ rfl
      have f1 : DataW.trod enc Tryz.prog W 0 (fun _ => true) true n 9 [c1] = some y1 := by simpa [cellsStr] using hf 1 _ rfl
      have f2 : DataW.trod enc Tryz.prog W 0 (fun _ => true) true n 9 [c2] = some y2 := by simpa [cellsStr] using hf 2 _ rfl
      have f3 : DataW.trod enc Tryz.prog W 0 (fun _ => true) true n 9 [c3] = some y3 := by simpa [cellsStr] using hf 3 _ rfl
      have f4 : DataW.trod enc Tryz.prog W 0 (fun _ => true) true n 9 [c4] = some y4 := by simpa [cellsStr] using hf 4 _ rfl
      have f5 : DataW.trod enc Tryz.prog W 0 (fun _ => true) true n 9 [c5] = some y5 := by simpa [cellsStr] using hf 5 _ rfl
      have f6 : DataW.trod enc Tryz.prog W 0 (fun _ => true) true n 4 [c6] = some y6 := by simpa [cBoolC] using hf 6 _ rfl
      obtain ⟨m, e0, _, w0⟩ := DataW.trod_int Tryz.underlying3 f0
      obtain ⟨b1, e1, _, w1⟩ := DataW.trod_string Tryz.underlying9 f1
      obtain ⟨b2, e2, _, w2⟩ := DataW.trod_string Tryz.underlying9 f2
      obtain ⟨b3, e3, _, w3⟩ := DataW.trod_string Tryz.underlying9 f3
      obtain ⟨b4, e4, _, w4⟩ := DataW.trod_string Tryz.underlying9 f4
      obtain ⟨b5, e5, _, w5⟩ := DataW.trod_string Tryz.underlying9 f5
      obtain ⟨y, e6, _⟩ := DataW.trod_bool Tryz.underlying4 f6
      simp only [List.cons.injEq, and_true] at e0 e1 e2 e3 e4 e5 e6
      subst e0 e1 e2 e3 e4 e5 e6
      obtain ⟨m0, m1⟩ := bounds_i64 w0
      exact ⟨⟨m, b1, b2, b3, b4, b5, y⟩, rfl, ⟨m0, m1, w1, w2, w3, w4, w5⟩⟩
set_option maxRecDepth 100000 in
/-- A slice of items that came in. -/
theorem field_items {W : World} {v : Value} {n : Nat} {y : DataW H × List MemPlace} (hf : DataW.trod enc Tryz.prog W 0 (fun _ => true) true n 22 [v] = some y) :
    ∃ (A : Option Addr) (c : Nat) (l : List Dg.It), v = .slice A l.length c ∧ l.length ≤ 9223372036854775807 ∧ (∀ x ∈ l, ItW x) ∧ Its W W.heap.size A l ∧ l.length ≤ c := by
  rcases open_slice Tryz.underlying22 hf with ⟨hcs, _⟩ | ⟨a, len, cap, m, k, D, Pl, hcs, _, hl, hm, hmm, _, hi⟩
  · simp only [List.cons.injEq, and_true] at hcs
    subst hcs
    exact ⟨none, 0, [], rfl, by simp, by simp, Its.nil _ _ _, by simp⟩
  · simp only [List.cons.injEq, and_true] at hcs
    subst hcs
    simp only [if_true] at hmm
    unfold maxLen at hm
    rw [cItem] at hi
    have h1 : ∀ i, ∃ v : Dg.It, i < len → ItW v ∧ ∀ (j : Nat) (u : Value), (itV v)[j]? = some u → W.cell? ((a.add (i * 7)).add j) = some u := fun i => by
      by_cases hil : i < len
      · obtain ⟨cs', hc, ht⟩ := hi i (by omega)
        obtain ⟨v, hcs, hw⟩ := trod_item ht
        obtain ⟨_, hcl, hat⟩ := World.cells?_some hc
        refine ⟨v, fun _ => ⟨hw, fun j u hj => ?_⟩⟩
        have hj7 : j < 7 := (Array.getElem?_eq_some_iff.1 hj).1
        rw [hat j hj7, hcs, Array.getElem?_toList]
        exact hj
      · exact ⟨⟨0, ⟨#[]⟩, ⟨#[]⟩, ⟨#[]⟩, ⟨#[]⟩, ⟨#[]⟩, false⟩, fun h => absurd h hil⟩
    obtain ⟨f, hfv⟩ := Classical.axiomOfChoice h1
    have hlen : ((List.range len).map f).length = len := by rw [List.length_map, List.length_range]
    refine ⟨some a, cap, (List.range len).map f, by rw [hlen], by rw [hlen]; omega, fun v hv => ?_, ⟨fun h0 => ?_⟩, by rw [hlen]; exact hl⟩
    · obtain ⟨i, hir, rfl⟩ := List.mem_map.1 hv
      exact (hfv i (List.mem_range.1 hir)).1
    · rw [hlen] at h0
      obtain ⟨_, hc0⟩ := hfv 0 h0
      have h00 : (a.add (0 * 7)).add 0 = a := by unfold Addr.add; simp
      obtain ⟨e, hb⟩ := addr_of_cell (h00 ▸ hc0 0 _ rfl)
      refine ⟨a.block, a.off, by rw [← e], hb, fun j v hj i u hu => ?_⟩
      have hjl : j < len := by
        have := (List.getElem?_eq_some_iff.1 hj).1
        rw [hlen] at this; exact this
      rw [List.getElem?_map, List.getElem?_range hjl] at hj
      obtain rfl : f j = v := by simpa using hj
      obtain ⟨_, hc⟩ := hfv j hjl
      have e2 : (a.add (j * 7)).add i = ⟨a.block, a.off + j * 7 + i, none⟩ := by
        rw [e]
        rw [add_plain, add_plain]
      rw [← e2]
      exact hc i u hu
set_option maxRecDepth 100000 in
/-- A code. -/
theorem open_code {W : World} {v : Value} {d : DataW H} {p : List MemPlace} {base : Nat} (hv : Value.okWide Tryz.prog W .any base 24 v) (h : DataW.Trod enc Tryz.prog W 0 (fun _ => true) true 24 v d p) :
    ∃ (A : Option Addr) (c : Nat) (l : List Dg.It), v = .agg #[.slice A l.length c] ∧ l.length ≤ 9223372036854775807 ∧ (∀ x ∈ l, ItW x) ∧ Its W W.heap.size A l ∧ l.length ≤ c := by
  obtain ⟨cs, rfl, hsz⟩ := okWide_struct Tryz.underlying24 hv
  obtain ⟨l⟩ := cs
  match l, hsz.trans cCode with
  | [c0], _ =>
    obtain ⟨fuel, hf0⟩ := h
    obtain ⟨xs, n, _, _, _, hxl, hf⟩ := DataW.trod_struct Tryz.underlying24 hf0
    match xs, hxl with
    | [y0], _ =>
      have f0 : DataW.trod enc Tryz.prog W 0 (fun _ => true) true n 22 [c0] = some y0 := by simpa [Value.cells, cItems] using hf 0 _ rfl
      obtain ⟨A, c, l, rfl, a1, a2, a3, a4⟩ := field_items f0
      exact ⟨A, c, l, rfl, a1, a2, a3, a4⟩
end Go.Proofs.YtpldhempbdionaaGreatDoor

