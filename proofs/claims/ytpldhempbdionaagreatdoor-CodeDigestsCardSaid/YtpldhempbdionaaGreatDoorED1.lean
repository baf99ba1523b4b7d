/- Walks and laws of this seat, several texts in one: C35. No conditions but those that each theorem states. -/
import Derived.Test.YtpldhempbdionaaGreatDoorEA4
/- CodeDigests. No conditions but those that each theorem states. -/
namespace Go.Proofs.YtpldhempbdionaaGreatDoor
open Go Go.RowKit Go.Sort Go.Maps
set_option maxRecDepth 100000 in
set_option maxHeartbeats 16000000 in
theorem law_digests (l : List Dg.It) (A : Option Addr) (n c : Nat) (hl : l.length = n) (hw : ∀ x ∈ l, ItW x) (hn : n ≤ 9223372036854775807) (l' : List Dg.It) (A' : Option Addr) (n' c' : Nat) (hl' : l'.length = n') (hw' : ∀ x ∈ l', ItW x) (hn' : n' ≤ 9223372036854775807) (w : World) (he : Env w) (hI : Its w w.heap.size A l) (hI' : Its w w.heap.size A' l') :
    Calls Tryz.prog 4 #[.agg #[.slice A n c], .agg #[.slice A' n' c']] w fun e w' => e = .returned (.bool true) ∧ Below w.heap.size w w' := by
  have hx1 := Below.news (Below.refl w.heap.size w) (.cells #[.slice A n c] 24)
  have hx2 := Below.news (Below.refl (w.alloc (.cells #[.slice A n c] 24)).heap.size (w.alloc (.cells #[.slice A n c] 24))) (.cells #[.slice A' n' c'] 24)
  have hb1 := bnext hx1 hx2
  have hz1 : (w.alloc (.cells #[.slice A n c] 24)).heap.size = w.heap.size + 1 := by simp
  have hS1 : C2 w.heap.size (w.heap.size + 1) A n c l A' n' c' l' ((w.alloc (.cells #[.slice A n c] 24)).alloc (.cells #[.slice A' n' c'] 24)) := ⟨iNext (heap_alloc_new w (.cells #[.slice A n c] 24)) hx2, hz1 ▸ heap_alloc_new (w.alloc (.cells #[.slice A n c] 24)) (.cells #[.slice A' n' c'] 24), hI.keep hb1, hI'.keep hb1, he.next hb1⟩
  have HL := hide hl; have HW := hide hw; have HL' := hide hl'; have HW' := hide hw'
  clear hl hw hI he hl' hw' hI' hx1 hx2 hz1
  have hmx : Tryz.prog.follows .mixedOrders = true := by kernel_rfl
  go_enter Tryz.func4, Tryz.ntmps4
  go_wp2_with fail
  generalize (w.alloc (.cells #[.slice A n c] 24)).alloc (.cells #[.slice A' n' c'] 24) = w1 at *
  refine (head_any w1 hS1.env).mono ?_
  rintro e w2 ⟨rfl, hx2⟩
  have hS2 := hS1.below hx2
  have hb2 := bnext hb1 hx2
  clear hS1 hb1 hx2
  try clear hc1
  try clear hc2
  have hc1 := iCells0 hS2.r1
  have hc2 := iCells0 hS2.r2
  obtain ⟨F, hF⟩ : ∃ F, (fewC l 30 && fewC l' 30) = F := ⟨_, rfl⟩
  go_wp2_with fail
  refine (few2_of l A n c HL.out hn l' A' n' c' HL'.out hn' w2 _ rfl hS2.i1 hS2.i2 F hF).mono ?_
  rintro e w3 ⟨rfl, hx3⟩
  have hS3 := hS2.below hx3
  have hb3 := bnext hb2 hx3
  clear hS2 hb2 hx3
  try clear hc1
  try clear hc2
  have hc1 := iCells0 hS3.r1
  have hc2 := iCells0 hS3.r2
  cases F with
  | false =>
    clear hF
    go_wp2
    go_ret
    exact ⟨rfl, hb3⟩
  | true =>
    rw [Bool.and_eq_true] at hF
    obtain ⟨n30, z30⟩ := few_sizes hF.1
    obtain ⟨m30, y30⟩ := few_sizes hF.2
    rw [HL.out] at n30
    rw [HL'.out] at m30
    have ZL := hide z30; have ZL' := hide y30
    clear hF z30 y30
    obtain ⟨D, hD⟩ : ∃ D, Dg.digestC l = D := ⟨_, rfl⟩
    obtain ⟨E, hE⟩ : ∃ E, Dg.digestC l' = E := ⟨_, rfl⟩
    have hDz : D.size ≤ 16 := by rw [← hD]; exact digestC_size l
    have HD := hide hD; have HE := hide hE
    clear hD hE
    go_upto_region 4 with (fail)
    try clear hc1
    try clear hc2
    refine wp_region_noPanic ?_
    refine wp_region_L (C2 w.heap.size (w.heap.size + 1) A n c l A' n' c' l') 9 hmx ?_
    have hdr := (Below.refl w3.heap.size w3).drew
    have hS4 : (C2 w.heap.size (w.heap.size + 1) A n c l A' n' c' l') w3.drew := hS3.below hdr
    have hb4 := bnext hb3 hdr
    clear hdr hS3 hb3
    generalize w3.drew = w4 at *
    refine wpAnyL_take (i := 0) (f0 := 8) (v := ?_) rfl (by decide +kernel) (by decide +kernel) (by decide +kernel) (by decide +kernel) (by decide +kernel) (fun _ _ _ h => h) (Or.inl ⟨by rfl, ?_⟩) hS4 ?_
    rotate_left
    · intro wS hS; have hc1 := iCells0 hS.r1; go_simp; (try with_reducible rfl)
    simp only [Act.put, List.getElem_toArray, List.getElem_cons_succ, List.getElem_cons_zero, List.setIfInBounds_toArray, List.set_cons_succ, List.set_cons_zero]
    refine wpAnyL_take (i := 2) (f0 := 8) (v := ?_) rfl (by decide +kernel) (by decide +kernel) (by decide +kernel) (by decide +kernel) (by decide +kernel) (fun _ _ _ h => h) (Or.inl ⟨by rfl, ?_⟩) hS4 ?_
    rotate_left
    · intro wS hS; have hc2 := iCells0 hS.r2; go_simp; (try with_reducible rfl)
    simp only [Act.put, List.getElem_toArray, List.getElem_cons_succ, List.getElem_cons_zero, List.setIfInBounds_toArray, List.set_cons_succ, List.set_cons_zero]
    refine wpAnyL_one (i := 1) (by decide +kernel) (by rfl) (fun K hK => ?_)
    rw [if_pos (by rfl)]
    go_simp
    refine (Code.digest_of l A n c HL.out HW.out (by omega) w4 hS4.env hS4.i1 (few_up ZL.out (by decide)) D HD.out).mono ?_
    rintro e w5 ⟨rfl, hx5⟩
    have hS5 : (C2 w.heap.size (w.heap.size + 1) A n c l A' n' c' l') w5 := hS4.below hx5
    have hb5 := bnext hb4 hx5
    refine hK.out _ _ (Or.inr hS5) ?_
    clear hK K hS4 hb4 hx5
    try simp only [Act.put, List.getElem_toArray, List.getElem_cons_succ, List.getElem_cons_zero, List.setIfInBounds_toArray, List.set_cons_succ, List.set_cons_zero]
    refine wpAnyL_one (i := 3) (by decide +kernel) (by rfl) (fun K hK => ?_)
    rw [if_pos (by rfl)]
    go_simp
    refine (Code.digest_of l' A' n' c' HL'.out HW'.out (by omega) w5 hS5.env hS5.i2 (few_up ZL'.out (by decide)) E HE.out).mono ?_
    rintro e w6 ⟨rfl, hx6⟩
    have hS6 : (C2 w.heap.size (w.heap.size + 1) A n c l A' n' c' l') w6 := hS5.below hx6
    have hb6 := bnext hb5 hx6
    refine hK.out _ _ (Or.inr hS6) ?_
    clear hK K hS5 hb5 hx6
    try simp only [Act.put, List.getElem_toArray, List.getElem_cons_succ, List.getElem_cons_zero, List.setIfInBounds_toArray, List.set_cons_succ, List.set_cons_zero]
    refine wpAnyL_take (i := 4) (f0 := 8) (v := ?_) rfl (by decide +kernel) (by decide +kernel) (by decide +kernel) (by decide +kernel) (by decide +kernel) (fun _ _ _ h => h) (Or.inl ⟨by rfl, ?_⟩) hS6 ?_
    rotate_left
    · intro wS hS; go_simp; (try with_reducible rfl)
    simp only [Act.put, List.getElem_toArray, List.getElem_cons_succ, List.getElem_cons_zero, List.setIfInBounds_toArray, List.set_cons_succ, List.set_cons_zero]
    refine wpAnyL_take (i := 5) (f0 := 8) (v := ?_) rfl (by decide +kernel) (by decide +kernel) (by decide +kernel) (by decide +kernel) (by decide +kernel) (fun _ _ _ h => h) (Or.inl ⟨by rfl, ?_⟩) hS6 ?_
    rotate_left
    · intro wS hS; go_simp; (try with_reducible rfl)
    simp only [Act.put, List.getElem_toArray, List.getElem_cons_succ, List.getElem_cons_zero, List.setIfInBounds_toArray, List.set_cons_succ, List.set_cons_zero]
    refine wpAnyL_done (by decide +kernel) ?_ _
    refine NoPanic.normal ?_
    try clear hc1
    try clear hc2
    have hc1 := iCells0 hS6.r1
    have hc2 := iCells0 hS6.r2
    obtain ⟨V, hV⟩ : ∃ V, Dg.validC l = V := ⟨_, rfl⟩
    have hDV : Dg.isB D = V := by rw [← HD.out, Dg.digest_valid, hV]
    have HV := hide hV; have HDV := hide hDV
    clear hV hDV
    obtain ⟨T, hT⟩ : ∃ T, (T = true ↔ l = l') := ⟨@decide (l = l') (Classical.propDecidable _), by simp⟩
    have HT := hide hT
    clear hT
    go_upto_region 5 with (fail)
    try clear hc1
    try clear hc2
    refine wp_region_noPanic ?_
    refine wp_region_L (C2 w.heap.size (w.heap.size + 1) A n c l A' n' c' l') 14 hmx ?_
    have hdr := (Below.refl w6.heap.size w6).drew
    have hS7 : (C2 w.heap.size (w.heap.size + 1) A n c l A' n' c' l') w6.drew := hS6.below hdr
    have hb7 := bnext hb6 hdr
    clear hdr hS6 hb6
    generalize w6.drew = w7 at *
    cases V with
    | false =>
      have hDn : D = Dg.nil8 := by rw [← HD.out]; unfold Dg.digestC; rw [if_neg (by rw [HV.out]; exact Bool.false_ne_true)]
      have hDe : D.toList.isEmpty = true := (emp_iff D).symm.trans (decide_eq_true hDn)
      have HDn := hide hDn
      clear hDn
      refine wpAnyL_take (i := 0) (f0 := 16) (v := ?_) rfl (by decide +kernel) (by decide +kernel) (by decide +kernel) (by decide +kernel) (by decide +kernel) (fun _ _ _ h => h) (Or.inl ⟨by rfl, ?_⟩) hS7 ?_
      rotate_left
      · intro wS hS; go_simp; (try with_reducible rfl)
      simp only [Act.put, List.getElem_toArray, List.getElem_cons_succ, List.getElem_cons_zero, List.setIfInBounds_toArray, List.set_cons_succ, List.set_cons_zero]
      refine wpAnyL_take (i := 2) (f0 := 16) (v := ?_) rfl (by decide +kernel) (by decide +kernel) (by decide +kernel) (by decide +kernel) (by decide +kernel) (fun _ _ _ h => h) (Or.inl ⟨by rfl, ?_⟩) hS7 ?_
      rotate_left
      · intro wS hS; have hc1 := iCells0 hS.r1; go_simp; (try with_reducible rfl)
      simp only [Act.put, List.getElem_toArray, List.getElem_cons_succ, List.getElem_cons_zero, List.setIfInBounds_toArray, List.set_cons_succ, List.set_cons_zero]
      refine wpAnyL_one (i := 1) (by decide +kernel) (by rfl) (fun K hK => ?_)
      rw [if_pos (by rfl)]
      go_simp
      refine (is_of D _ HDV.out (by omega) w7).mono ?_
      rintro e w8 ⟨rfl, hx8⟩
      have hS8 : (C2 w.heap.size (w.heap.size + 1) A n c l A' n' c' l') w8 := hS7.below hx8
      have hb8 := bnext hb7 hx8
      refine hK.out _ _ (Or.inr hS8) ?_
      clear hK K hS7 hb7 hx8
      try simp only [Act.put, List.getElem_toArray, List.getElem_cons_succ, List.getElem_cons_zero, List.setIfInBounds_toArray, List.set_cons_succ, List.set_cons_zero]
      refine wpAnyL_one (i := 3) (by decide +kernel) (by rfl) (fun K hK => ?_)
      rw [if_pos (by rfl)]
      go_simp
      refine (Code.valid_of l A n c HL.out HW.out (by omega) w8 hS8.i1 false HV.out).mono ?_
      rintro e w9 ⟨rfl, hx9⟩
      have hS9 : (C2 w.heap.size (w.heap.size + 1) A n c l A' n' c' l') w9 := hS8.below hx9
      have hb9 := bnext hb8 hx9
      refine hK.out _ _ (Or.inr hS9) ?_
      clear hK K hS8 hb8 hx9
      try simp only [Act.put, List.getElem_toArray, List.getElem_cons_succ, List.getElem_cons_zero, List.setIfInBounds_toArray, List.set_cons_succ, List.set_cons_zero]
      refine wpAnyL_take (i := 4) (f0 := 16) (v := ?_) rfl (by decide +kernel) (by decide +kernel) (by decide +kernel) (by decide +kernel) (by decide +kernel) (fun _ _ _ h => h) (Or.inl ⟨by rfl, ?_⟩) hS9 ?_
      rotate_left
      · intro wS hS; go_simp; (try with_reducible rfl)
      simp only [Act.put, List.getElem_toArray, List.getElem_cons_succ, List.getElem_cons_zero, List.setIfInBounds_toArray, List.set_cons_succ, List.set_cons_zero]
      refine wpAnyL_take (i := 5) (f0 := 16) (v := ?_) rfl (by decide +kernel) (by decide +kernel) (by decide +kernel) (by decide +kernel) (by decide +kernel) (fun _ _ _ h => h) (Or.inl ⟨by rfl, ?_⟩) hS9 ?_
      rotate_left
      · intro wS hS; go_simp; (try with_reducible rfl)
      simp only [Act.put, List.getElem_toArray, List.getElem_cons_succ, List.getElem_cons_zero, List.setIfInBounds_toArray, List.set_cons_succ, List.set_cons_zero]
      refine wpAnyL_take (i := 6) (f0 := 16) (v := ?_) rfl (by decide +kernel) (by decide +kernel) (by decide +kernel) (by decide +kernel) (by decide +kernel) (fun _ _ _ h => h) (Or.inl ⟨by rfl, ?_⟩) hS9 ?_
      rotate_left
      · intro wS hS; have hc1 := iCells0 hS.r1; go_simp; (try with_reducible rfl)
      simp only [Act.put, List.getElem_toArray, List.getElem_cons_succ, List.getElem_cons_zero, List.setIfInBounds_toArray, List.set_cons_succ, List.set_cons_zero]
      refine wpAnyL_one (i := 7) (by decide +kernel) (by rfl) (fun K hK => ?_)
      rw [if_pos (by rfl)]
      go_simp
      refine (Code.valid_of l A n c HL.out HW.out (by omega) w9 hS9.i1 false HV.out).mono ?_
      rintro e w10 ⟨rfl, hx10⟩
      have hS10 : (C2 w.heap.size (w.heap.size + 1) A n c l A' n' c' l') w10 := hS9.below hx10
      have hb10 := bnext hb9 hx10
      refine hK.out _ _ (Or.inr hS10) ?_
      clear hK K hS9 hb9 hx10
      try simp only [Act.put, List.getElem_toArray, List.getElem_cons_succ, List.getElem_cons_zero, List.setIfInBounds_toArray, List.set_cons_succ, List.set_cons_zero]
      refine wpAnyL_take (i := 8) (f0 := 16) (v := ?_) rfl (by decide +kernel) (by decide +kernel) (by decide +kernel) (by decide +kernel) (by decide +kernel) (fun _ _ _ h => h) (Or.inl ⟨by rfl, ?_⟩) hS10 ?_
      rotate_left
      · intro wS hS; go_simp; (try with_reducible rfl)
      simp only [Act.put, List.getElem_toArray, List.getElem_cons_succ, List.getElem_cons_zero, List.setIfInBounds_toArray, List.set_cons_succ, List.set_cons_zero]
      refine wpAnyL_take (i := 9) (f0 := 16) (v := ?_) rfl (by decide +kernel) (by decide +kernel) (by decide +kernel) (by decide +kernel) (by decide +kernel) (fun _ _ _ h => h) (Or.inl ⟨by rfl, ?_⟩) hS10 ?_
      rotate_left
      · intro wS hS; go_simp; (try with_reducible rfl)
      simp only [Act.put, List.getElem_toArray, List.getElem_cons_succ, List.getElem_cons_zero, List.setIfInBounds_toArray, List.set_cons_succ, List.set_cons_zero]
      refine wpAnyL_take (i := 10) (f0 := 16) (v := ?_) rfl (by decide +kernel) (by decide +kernel) (by decide +kernel) (by decide +kernel) (by decide +kernel) (fun _ _ _ h => h) (Or.inl ⟨by rfl, ?_⟩) hS10 ?_
      rotate_left
      · intro wS hS; go_simp; (try with_reducible rfl)
      simp only [Act.put, List.getElem_toArray, List.getElem_cons_succ, List.getElem_cons_zero, List.setIfInBounds_toArray, List.set_cons_succ, List.set_cons_zero]
      refine wpAnyL_take (i := 11) (f0 := 16) (v := ?_) rfl (by decide +kernel) (by decide +kernel) (by decide +kernel) (by decide +kernel) (by decide +kernel) (fun _ _ _ h => h) (Or.inl ⟨by rfl, ?_⟩) hS10 ?_
      rotate_left
      · intro wS hS; go_simp; (try with_reducible rfl)
      simp only [Act.put, List.getElem_toArray, List.getElem_cons_succ, List.getElem_cons_zero, List.setIfInBounds_toArray, List.set_cons_succ, List.set_cons_zero]
      refine wpAnyL_take (i := 12) (f0 := 16) (v := ?_) rfl (by decide +kernel) (by decide +kernel) (by decide +kernel) (by decide +kernel) (by decide +kernel) (fun _ _ _ h => h) (Or.inl ⟨by rfl, ?_⟩) hS10 ?_
      rotate_left
      · intro wS hS; go_simp; (try with_reducible rfl)
      simp only [Act.put, List.getElem_toArray, List.getElem_cons_succ, List.getElem_cons_zero, List.setIfInBounds_toArray, List.set_cons_succ, List.set_cons_zero]
      refine wpAnyL_take (i := 13) (f0 := 16) (v := ?_) rfl (by decide +kernel) (by decide +kernel) (by decide +kernel) (by decide +kernel) (by decide +kernel) (fun _ _ _ h => h) (Or.inl ⟨by rfl, ?_⟩) hS10 ?_
      rotate_left
      · intro wS hS; go_simp; (try with_reducible rfl)
      simp only [Act.put, List.getElem_toArray, List.getElem_cons_succ, List.getElem_cons_zero, List.setIfInBounds_toArray, List.set_cons_succ, List.set_cons_zero]
      refine wpAnyL_done (by decide +kernel) ?_ _
      refine NoPanic.normal ?_
      try clear hc1
      try clear hc2
      have hc1 := iCells0 hS10.r1
      have hc2 := iCells0 hS10.r2
      clear hDe
      go_wp2_with fail
      refine (same18_of l l' A A' n c n' c' HL.out HL'.out hn hn' w10 hS10.i1 hS10.i2 T HT.out).mono ?_
      rintro e w11 ⟨rfl, hx11⟩
      have hS11 := hS10.below hx11
      have hb11 := bnext hb10 hx11
      clear hS10 hb10 hx11
      try clear hc1
      try clear hc2
      have hc1 := iCells0 hS11.r1
      have hc2 := iCells0 hS11.r2
      cases T with
      | true =>
        have hDE : (D.toList == E.toList) = true := str_yes (by rw [← HD.out, ← HE.out, HT.out.1 rfl])
        go_wp2
        go_ret
        exact ⟨rfl, hb11⟩
      | false =>
        go_wp2_with fail
        refine (Code.valid_of l A n c HL.out HW.out (by omega) w11 hS11.i1 false HV.out).mono ?_
        rintro e w12 ⟨rfl, hx12⟩
        have hS12 := hS11.below hx12
        have hb12 := bnext hb11 hx12
        clear hS11 hb11 hx12
        clear hc1 hc2
        go_wp2
        go_ret
        exact ⟨rfl, hb12⟩
    | true =>
      refine wpAnyL_take (i := 0) (f0 := 16) (v := ?_) rfl (by decide +kernel) (by decide +kernel) (by decide +kernel) (by decide +kernel) (by decide +kernel) (fun _ _ _ h => h) (Or.inl ⟨by rfl, ?_⟩) hS7 ?_
      rotate_left
      · intro wS hS; go_simp; (try with_reducible rfl)
      simp only [Act.put, List.getElem_toArray, List.getElem_cons_succ, List.getElem_cons_zero, List.setIfInBounds_toArray, List.set_cons_succ, List.set_cons_zero]
      refine wpAnyL_take (i := 2) (f0 := 16) (v := ?_) rfl (by decide +kernel) (by decide +kernel) (by decide +kernel) (by decide +kernel) (by decide +kernel) (fun _ _ _ h => h) (Or.inl ⟨by rfl, ?_⟩) hS7 ?_
      rotate_left
      · intro wS hS; have hc1 := iCells0 hS.r1; go_simp; (try with_reducible rfl)
      simp only [Act.put, List.getElem_toArray, List.getElem_cons_succ, List.getElem_cons_zero, List.setIfInBounds_toArray, List.set_cons_succ, List.set_cons_zero]
      refine wpAnyL_one (i := 1) (by decide +kernel) (by rfl) (fun K hK => ?_)
      rw [if_pos (by rfl)]
      go_simp
      refine (is_of D _ HDV.out (by omega) w7).mono ?_
      rintro e w13 ⟨rfl, hx13⟩
      have hS13 : (C2 w.heap.size (w.heap.size + 1) A n c l A' n' c' l') w13 := hS7.below hx13
      have hb13 := bnext hb7 hx13
      refine hK.out _ _ (Or.inr hS13) ?_
      clear hK K hS7 hb7 hx13
      try simp only [Act.put, List.getElem_toArray, List.getElem_cons_succ, List.getElem_cons_zero, List.setIfInBounds_toArray, List.set_cons_succ, List.set_cons_zero]
      refine wpAnyL_one (i := 3) (by decide +kernel) (by rfl) (fun K hK => ?_)
      rw [if_pos (by rfl)]
      go_simp
      refine (Code.valid_of l A n c HL.out HW.out (by omega) w13 hS13.i1 true HV.out).mono ?_
      rintro e w14 ⟨rfl, hx14⟩
      have hS14 : (C2 w.heap.size (w.heap.size + 1) A n c l A' n' c' l') w14 := hS13.below hx14
      have hb14 := bnext hb13 hx14
      refine hK.out _ _ (Or.inr hS14) ?_
      clear hK K hS13 hb13 hx14
      try simp only [Act.put, List.getElem_toArray, List.getElem_cons_succ, List.getElem_cons_zero, List.setIfInBounds_toArray, List.set_cons_succ, List.set_cons_zero]
      refine wpAnyL_take (i := 4) (f0 := 16) (v := ?_) rfl (by decide +kernel) (by decide +kernel) (by decide +kernel) (by decide +kernel) (by decide +kernel) (fun _ _ _ h => h) (Or.inl ⟨by rfl, ?_⟩) hS14 ?_
      rotate_left
      · intro wS hS; go_simp; (try with_reducible rfl)
      simp only [Act.put, List.getElem_toArray, List.getElem_cons_succ, List.getElem_cons_zero, List.setIfInBounds_toArray, List.set_cons_succ, List.set_cons_zero]
      refine wpAnyL_take (i := 5) (f0 := 16) (v := ?_) rfl (by decide +kernel) (by decide +kernel) (by decide +kernel) (by decide +kernel) (by decide +kernel) (fun _ _ _ h => h) (Or.inl ⟨by rfl, ?_⟩) hS14 ?_
      rotate_left
      · intro wS hS; go_simp; (try with_reducible rfl)
      simp only [Act.put, List.getElem_toArray, List.getElem_cons_succ, List.getElem_cons_zero, List.setIfInBounds_toArray, List.set_cons_succ, List.set_cons_zero]
      refine wpAnyL_take (i := 6) (f0 := 16) (v := ?_) rfl (by decide +kernel) (by decide +kernel) (by decide +kernel) (by decide +kernel) (by decide +kernel) (fun _ _ _ h => h) (Or.inl ⟨by rfl, ?_⟩) hS14 ?_
      rotate_left
      · intro wS hS; have hc1 := iCells0 hS.r1; go_simp; (try with_reducible rfl)
      simp only [Act.put, List.getElem_toArray, List.getElem_cons_succ, List.getElem_cons_zero, List.setIfInBounds_toArray, List.set_cons_succ, List.set_cons_zero]
      refine wpAnyL_one (i := 7) (by decide +kernel) (by rfl) (fun K hK => ?_)
      rw [if_pos (by rfl)]
      go_simp
      refine (Code.valid_of l A n c HL.out HW.out (by omega) w14 hS14.i1 true HV.out).mono ?_
      rintro e w15 ⟨rfl, hx15⟩
      have hS15 : (C2 w.heap.size (w.heap.size + 1) A n c l A' n' c' l') w15 := hS14.below hx15
      have hb15 := bnext hb14 hx15
      refine hK.out _ _ (Or.inr hS15) ?_
      clear hK K hS14 hb14 hx15
      try simp only [Act.put, List.getElem_toArray, List.getElem_cons_succ, List.getElem_cons_zero, List.setIfInBounds_toArray, List.set_cons_succ, List.set_cons_zero]
      refine wpAnyL_take (i := 8) (f0 := 16) (v := ?_) rfl (by decide +kernel) (by decide +kernel) (by decide +kernel) (by decide +kernel) (by decide +kernel) (fun _ _ _ h => h) (Or.inl ⟨by rfl, ?_⟩) hS15 ?_
      rotate_left
      · intro wS hS; go_simp; (try with_reducible rfl)
      simp only [Act.put, List.getElem_toArray, List.getElem_cons_succ, List.getElem_cons_zero, List.setIfInBounds_toArray, List.set_cons_succ, List.set_cons_zero]
      refine wpAnyL_take (i := 9) (f0 := 16) (v := ?_) rfl (by decide +kernel) (by decide +kernel) (by decide +kernel) (by decide +kernel) (by decide +kernel) (fun _ _ _ h => h) (Or.inl ⟨by rfl, ?_⟩) hS15 ?_
      rotate_left
      · intro wS hS; go_simp; (try with_reducible rfl)
      simp only [Act.put, List.getElem_toArray, List.getElem_cons_succ, List.getElem_cons_zero, List.setIfInBounds_toArray, List.set_cons_succ, List.set_cons_zero]
      refine wpAnyL_take (i := 10) (f0 := 16) (v := undef) rfl (by decide +kernel) (by decide +kernel) (by decide +kernel) (by decide +kernel) (by decide +kernel) (fun _ _ _ h => h) (Or.inr ⟨by rfl, rfl⟩) hS15 ?_
      simp only [Act.put, List.getElem_toArray, List.getElem_cons_succ, List.getElem_cons_zero, List.setIfInBounds_toArray, List.set_cons_succ, List.set_cons_zero]
      refine wpAnyL_take (i := 11) (f0 := 16) (v := undef) rfl (by decide +kernel) (by decide +kernel) (by decide +kernel) (by decide +kernel) (by decide +kernel) (fun _ _ _ h => h) (Or.inr ⟨by rfl, rfl⟩) hS15 ?_
      simp only [Act.put, List.getElem_toArray, List.getElem_cons_succ, List.getElem_cons_zero, List.setIfInBounds_toArray, List.set_cons_succ, List.set_cons_zero]
      refine wpAnyL_take (i := 12) (f0 := 16) (v := ?_) rfl (by decide +kernel) (by decide +kernel) (by decide +kernel) (by decide +kernel) (by decide +kernel) (fun _ _ _ h => h) (Or.inl ⟨by rfl, ?_⟩) hS15 ?_
      rotate_left
      · intro wS hS; go_simp; (try with_reducible rfl)
      simp only [Act.put, List.getElem_toArray, List.getElem_cons_succ, List.getElem_cons_zero, List.setIfInBounds_toArray, List.set_cons_succ, List.set_cons_zero]
      refine wpAnyL_take (i := 13) (f0 := 16) (v := ?_) rfl (by decide +kernel) (by decide +kernel) (by decide +kernel) (by decide +kernel) (by decide +kernel) (fun _ _ _ h => h) (Or.inl ⟨by rfl, ?_⟩) hS15 ?_
      rotate_left
      · intro wS hS; go_simp; (try with_reducible rfl)
      simp only [Act.put, List.getElem_toArray, List.getElem_cons_succ, List.getElem_cons_zero, List.setIfInBounds_toArray, List.set_cons_succ, List.set_cons_zero]
      refine wpAnyL_done (by decide +kernel) ?_ _
      refine NoPanic.normal ?_
      try clear hc1
      try clear hc2
      have hc1 := iCells0 hS15.r1
      have hc2 := iCells0 hS15.r2
      go_wp2_with fail
      refine (same18_of l l' A A' n c n' c' HL.out HL'.out hn hn' w15 hS15.i1 hS15.i2 T HT.out).mono ?_
      rintro e w16 ⟨rfl, hx16⟩
      have hS16 := hS15.below hx16
      have hb16 := bnext hb15 hx16
      clear hS15 hb15 hx16
      try clear hc1
      try clear hc2
      have hc1 := iCells0 hS16.r1
      have hc2 := iCells0 hS16.r2
      cases T with
      | true =>
        have hDE : (D.toList == E.toList) = true := str_yes (by rw [← HD.out, ← HE.out, HT.out.1 rfl])
        go_wp2
        go_ret
        exact ⟨rfl, hb16⟩
      | false =>
        go_wp2_with fail
        refine (Code.valid_of l A n c HL.out HW.out (by omega) w16 hS16.i1 true HV.out).mono ?_
        rintro e w17 ⟨rfl, hx17⟩
        have hS17 := hS16.below hx17
        have hb17 := bnext hb16 hx17
        clear hS16 hb16 hx17
        try clear hc1
        try clear hc2
        have hc1 := iCells0 hS17.r1
        have hc2 := iCells0 hS17.r2
        obtain ⟨U, hU⟩ : ∃ U, Dg.validC l' = U := ⟨_, rfl⟩
        go_wp2_with fail
        refine (Code.valid_of l' A' n' c' HL'.out HW'.out (by omega) w17 hS17.i2 U hU).mono ?_
        rintro e w18 ⟨rfl, hx18⟩
        have hS18 := hS17.below hx18
        have hb18 := bnext hb17 hx18
        clear hS17 hb17 hx18
        try clear hc1
        try clear hc2
        have hc1 := iCells0 hS18.r1
        have hc2 := iCells0 hS18.r2
        cases U with
        | false =>
          clear hU hc1 hc2
          go_wp2
          go_ret
          exact ⟨rfl, hb18⟩
        | true =>
          by_cases hde : D = E
          · have hne : l ≠ l' := fun e => by have := HT.out.2 e; cases this
            obtain ⟨F1, hF1⟩ : ∃ F, Dg.fieldsC l = F := ⟨_, rfl⟩
            obtain ⟨F2, hF2⟩ : ∃ F, Dg.fieldsC l' = F := ⟨_, rfl⟩
            have zF1 : ∀ s ∈ F1, s.size ≤ 500 := by rw [← hF1]; exact fieldsC_size ZL.out
            have zF2 : ∀ s ∈ F2, s.size ≤ 500 := by rw [← hF2]; exact fieldsC_size ZL'.out
            have lF1 : F1.length = n * 6 := by rw [← hF1, fields_len, HL.out]
            have lF2 : F2.length = n' * 6 := by rw [← hF2, fields_len, HL'.out]
            obtain ⟨j1, hj1⟩ : ∃ j, Dg.jB F1 = j := ⟨_, rfl⟩
            obtain ⟨j2, hj2⟩ : ∃ j, Dg.jB F2 = j := ⟨_, rfl⟩
            have hjne : j1 ≠ j2 := by
              rw [← hj1, ← hj2, ← hF1, ← hF2]
              exact (Dg.digest_binds HV.out hU (by rw [hF1]; exact fun s hs => Nat.le_trans (zF1 s hs) (by decide)) (by rw [hF2]; exact fun s hs => Nat.le_trans (zF2 s hs) (by decide)) hne (by rw [HD.out, HE.out]; exact hde)).1
            have hsum1 : Dg.sumB j1 = D := by rw [← HD.out, ← hj1, ← hF1]; unfold Dg.digestC; rw [if_pos HV.out]; rfl
            have hsum2 : Dg.sumB j2 = E := by rw [← HE.out, ← hj2, ← hF2]; unfold Dg.digestC; rw [if_pos hU]; rfl
            have zj1 : (Dg.joinedL F1).length ≤ 1000000 := by
              have h1 := Dg.joinedL_len_le F1 500 zF1
              rw [lF1] at h1
              have h2 : n * 6 * (500 + 21) ≤ 30 * 6 * (500 + 21) := Nat.mul_le_mul_right _ (by omega)
              omega
            have zj2 : (Dg.joinedL F2).length ≤ 1000000 := by
              have h1 := Dg.joinedL_len_le F2 500 zF2
              rw [lF2] at h1
              have h2 : n' * 6 * (500 + 21) ≤ 30 * 6 * (500 + 21) := Nat.mul_le_mul_right _ (by omega)
              omega
            have ej1 : Dg.B (Dg.joinedL F1) = j1 := hj1
            have ej2 : Dg.B (Dg.joinedL F2) = j2 := hj2
            have sz1 : j1.size ≤ 1000000 := by rw [← ej1, Dg.size_B]; exact zj1
            have sz2 : j2.size ≤ 1000000 := by rw [← ej2, Dg.size_B]; exact zj2
            have hDE : (D.toList == E.toList) = true := str_yes hde
            have hJJ : (j1.toList == j2.toList) = false := str_no hjne
            have M1 := hide (And.intro zF1 (And.intro lF1 (And.intro zj1 (And.intro ej1 (And.intro hF1 hsum1)))))
            have M2 := hide (And.intro zF2 (And.intro lF2 (And.intro zj2 (And.intro ej2 (And.intro hF2 hsum2)))))
            clear zF1 zF2 lF1 lF2 zj1 zj2 ej1 ej2 hF1 hF2 hsum1 hsum2 hjne hne hj1 hj2 hde hU
            go_upto_region 11 with (fail)
            try clear hc1
            try clear hc2
            refine wp_region_noPanic ?_
            refine wp_region_L (C2 w.heap.size (w.heap.size + 1) A n c l A' n' c' l') 14 hmx ?_
            have hdr := (Below.refl w18.heap.size w18).drew
            have hS19 : (C2 w.heap.size (w.heap.size + 1) A n c l A' n' c' l') w18.drew := hS18.below hdr
            have hb19 := bnext hb18 hdr
            clear hdr hS18 hb18
            generalize w18.drew = w19 at *
            refine wpAnyL_take (i := 0) (f0 := 10) (v := ?_) rfl (by decide +kernel) (by decide +kernel) (by decide +kernel) (by decide +kernel) (by decide +kernel) (fun _ _ _ h => h) (Or.inl ⟨by rfl, ?_⟩) hS19 ?_
            rotate_left
            · intro wS hS; have hc1 := iCells0 hS.r1; go_simp; (try with_reducible rfl)
            simp only [Act.put, List.getElem_toArray, List.getElem_cons_succ, List.getElem_cons_zero, List.setIfInBounds_toArray, List.set_cons_succ, List.set_cons_zero]
            refine wpAnyL_take (i := 3) (f0 := 10) (v := ?_) rfl (by decide +kernel) (by decide +kernel) (by decide +kernel) (by decide +kernel) (by decide +kernel) (fun _ _ _ h => h) (Or.inl ⟨by rfl, ?_⟩) hS19 ?_
            rotate_left
            · intro wS hS; have hc2 := iCells0 hS.r2; go_simp; (try with_reducible rfl)
            simp only [Act.put, List.getElem_toArray, List.getElem_cons_succ, List.getElem_cons_zero, List.setIfInBounds_toArray, List.set_cons_succ, List.set_cons_zero]
            refine wpAnyL_one (i := 1) (by decide +kernel) (by rfl) (fun K hK => ?_)
            rw [if_pos (by rfl)]
            go_simp
            refine (fields_of l A n c HL.out (by omega) w19 hS19.i1 F1 M1.out.2.2.2.2.1 (n * 6) M1.out.2.1).mono ?_
            rintro e w20 ⟨⟨A7, c7, rfl, hst⟩, hx20⟩
            have hS20 : (C2 w.heap.size (w.heap.size + 1) A n c l A' n' c' l') w20 := hS19.below hx20
            have hb20 := bnext hb19 hx20
            refine hK.out _ _ (Or.inr hS20) ?_
            clear hK K hS19 hb19 hx20
            try simp only [Act.put, List.getElem_toArray, List.getElem_cons_succ, List.getElem_cons_zero, List.setIfInBounds_toArray, List.set_cons_succ, List.set_cons_zero]
            refine wpAnyL_one (i := 2) (by decide +kernel) (by rfl) (fun K hK => ?_)
            rw [if_pos (by rfl)]
            go_simp
            refine (joined_of A7 c7 (n * 6) F1 M1.out.2.1 j1 M1.out.2.2.2.1 w20 (by rw [M1.out.2.1]; omega) (Nat.le_trans M1.out.2.2.1 (by decide)) (fun s hs => Nat.le_trans (M1.out.1 s hs) (by decide)) hst).mono ?_
            rintro e w21 ⟨rfl, hx21⟩
            have hS21 : (C2 w.heap.size (w.heap.size + 1) A n c l A' n' c' l') w21 := hS20.below hx21
            have hb21 := bnext hb20 hx21
            clear hst
            refine hK.out _ _ (Or.inr hS21) ?_
            clear hK K hS20 hb20 hx21
            try simp only [Act.put, List.getElem_toArray, List.getElem_cons_succ, List.getElem_cons_zero, List.setIfInBounds_toArray, List.set_cons_succ, List.set_cons_zero]
            refine wpAnyL_one (i := 4) (by decide +kernel) (by rfl) (fun K hK => ?_)
            rw [if_pos (by rfl)]
            go_simp
            refine (fields_of l' A' n' c' HL'.out (by omega) w21 hS21.i2 F2 M2.out.2.2.2.2.1 (n' * 6) M2.out.2.1).mono ?_
            rintro e w22 ⟨⟨A7, c7, rfl, hst⟩, hx22⟩
            have hS22 : (C2 w.heap.size (w.heap.size + 1) A n c l A' n' c' l') w22 := hS21.below hx22
            have hb22 := bnext hb21 hx22
            refine hK.out _ _ (Or.inr hS22) ?_
            clear hK K hS21 hb21 hx22
            try simp only [Act.put, List.getElem_toArray, List.getElem_cons_succ, List.getElem_cons_zero, List.setIfInBounds_toArray, List.set_cons_succ, List.set_cons_zero]
            refine wpAnyL_one (i := 5) (by decide +kernel) (by rfl) (fun K hK => ?_)
            rw [if_pos (by rfl)]
            go_simp
            refine (joined_of A7 c7 (n' * 6) F2 M2.out.2.1 j2 M2.out.2.2.2.1 w22 (by rw [M2.out.2.1]; omega) (Nat.le_trans M2.out.2.2.1 (by decide)) (fun s hs => Nat.le_trans (M2.out.1 s hs) (by decide)) hst).mono ?_
            rintro e w23 ⟨rfl, hx23⟩
            have hS23 : (C2 w.heap.size (w.heap.size + 1) A n c l A' n' c' l') w23 := hS22.below hx23
            have hb23 := bnext hb22 hx23
            clear hst
            refine hK.out _ _ (Or.inr hS23) ?_
            clear hK K hS22 hb22 hx23
            try simp only [Act.put, List.getElem_toArray, List.getElem_cons_succ, List.getElem_cons_zero, List.setIfInBounds_toArray, List.set_cons_succ, List.set_cons_zero]
            refine wpAnyL_take (i := 6) (f0 := 10) (v := ?_) rfl (by decide +kernel) (by decide +kernel) (by decide +kernel) (by decide +kernel) (by decide +kernel) (fun _ _ _ h => h) (Or.inl ⟨by rfl, ?_⟩) hS23 ?_
            rotate_left
            · intro wS hS; go_simp; (try with_reducible rfl)
            simp only [Act.put, List.getElem_toArray, List.getElem_cons_succ, List.getElem_cons_zero, List.setIfInBounds_toArray, List.set_cons_succ, List.set_cons_zero]
            refine wpAnyL_take (i := 7) (f0 := 10) (v := ?_) rfl (by decide +kernel) (by decide +kernel) (by decide +kernel) (by decide +kernel) (by decide +kernel) (fun _ _ _ h => h) (Or.inl ⟨by rfl, ?_⟩) hS23 ?_
            rotate_left
            · intro wS hS; go_simp; (try with_reducible rfl)
            simp only [Act.put, List.getElem_toArray, List.getElem_cons_succ, List.getElem_cons_zero, List.setIfInBounds_toArray, List.set_cons_succ, List.set_cons_zero]
            refine wpAnyL_done (by decide +kernel) ?_ _
            refine NoPanic.normal ?_
            go_wp2_with fail
            refine (sum_of j1 D M1.out.2.2.2.2.2 (by omega) w23).mono ?_
            rintro e w24 ⟨rfl, hx24⟩
            have hS24 := hS23.below hx24
            have hb24 := bnext hb23 hx24
            clear hS23 hb23 hx24
            go_wp2_with fail
            refine (sum_of j2 E M2.out.2.2.2.2.2 (by omega) w24).mono ?_
            rintro e w25 ⟨rfl, hx25⟩
            have hS25 := hS24.below hx25
            have hb25 := bnext hb24 hx25
            clear hS24 hb24 hx25
            go_wp2
            go_ret
            exact ⟨rfl, hb25⟩
          · have hDE : (D.toList == E.toList) = false := str_no hde
            clear hU hc1 hc2 hde
            go_wp2
            go_ret
            exact ⟨rfl, hb18⟩
end Go.Proofs.YtpldhempbdionaaGreatDoor

