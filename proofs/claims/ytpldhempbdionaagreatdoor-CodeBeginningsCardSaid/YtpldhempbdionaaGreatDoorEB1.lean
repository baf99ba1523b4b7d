/- Walks and laws of this seat, several texts in one: C36. No conditions but those that each theorem states. -/
import Derived.Test.YtpldhempbdionaaGreatDoorEA4
/- CodeBeginnings. No conditions but those that each theorem states. -/
namespace Go.Proofs.YtpldhempbdionaaGreatDoor
open Go Go.RowKit Go.Sort Go.Maps
theorem textC_few {l : List Dg.It} (hv : Dg.validC l = true) (h : fewC l 30 = true) : Dg.textC l = (Dg.B (Dg.textL l), 0) := by
  obtain ⟨h1, h2⟩ := fewC_spec h
  have h3 := Dg.textL_len l (fun x hx => (smallI_iff x).1 (h2 x hx))
  have h4 : l.length * 6100 ≤ 30 * 6100 := Nat.mul_le_mul_right _ h1
  unfold Dg.textC
  rw [if_pos hv, if_neg (by omega)]
theorem few_take {l : List Dg.It} (h : fewC l 30 = true) (k : Nat) : fewC (l.take k) 30 = true := by
  obtain ⟨h1, h2⟩ := fewC_spec h
  exact fewC_yes (by rw [List.length_take]; omega) fun x hx => h2 x (List.mem_of_mem_take hx)
theorem same_refl (l : List ByteArray) : Dg.same l l = true := by
  unfold Dg.same
  simp
theorem Strs.keep3 {w w' : World} {A : Option Addr} {l : List ByteArray} (h : Strs w w.heap.size A l) (hb : Below w.heap.size w w') : Strs w' w'.heap.size A l := keepS h hb
theorem B_take (t : List UInt8) (k : Nat) : (Dg.B t).extract 0 k = Dg.B (t.take k) := by
  apply Dg.L_inj
  rw [Dg.L_extract, Dg.L_B, Dg.L_B, List.drop_zero]
set_option maxRecDepth 100000 in
set_option maxHeartbeats 16000000 in
theorem law_beginnings (l : List Dg.It) (A : Option Addr) (n c : Nat) (hl : l.length = n) (hw : ∀ x ∈ l, ItW x) (hn : n ≤ 9223372036854775807) (hnc : n ≤ c) (k0 : Nat) (hk0 : k0 ≤ 255) (w : World) (he : Env w) (hI : Its w w.heap.size A l) :
    Calls Tryz.prog 6 #[.agg #[.slice A n c], .int .u8 k0] w fun e w' => e = .returned (.bool true) ∧ Below w.heap.size w w' := by
  have hb1 := Below.news (Below.refl w.heap.size w) (.cells #[.slice A n c] 24)
  have hS1 : CS w.heap.size A n c l none [] (w.alloc (.cells #[.slice A n c] 24)) := ⟨heap_alloc_new w (.cells #[.slice A n c] 24), hI.keep hb1, he.next hb1, Strs.nil _ _ _⟩
  have HL := hide hl; have HW := hide hw
  clear hl hw hI he
  have hmx : Tryz.prog.follows .mixedOrders = true := by kernel_rfl
  go_enter Tryz.func6, Tryz.ntmps6
  go_wp2_with fail
  generalize w.alloc (.cells #[.slice A n c] 24) = w1 at *
  refine (head_any w1 hS1.env).mono ?_
  rintro e w2 ⟨rfl, hx2⟩
  have hS2 := hS1.below hx2
  have hb2 := bnext hb1 hx2
  clear hS1 hb1 hx2
  try clear hc1
  have hc1 := iCells0 hS2.row
  obtain ⟨F, hF⟩ : ∃ F, fewC l 30 = F := ⟨_, rfl⟩
  go_wp2_with fail
  refine (few1_of l A n c HL.out hn w2 _ rfl hS2.its F hF).mono ?_
  rintro e w3 ⟨rfl, hx3⟩
  have hS3 := hS2.below hx3
  have hb3 := bnext hb2 hx3
  clear hS2 hb2 hx3
  try clear hc1
  have hc1 := iCells0 hS3.row
  cases F with
  | false =>
    clear hF hc1
    go_wp2
    go_ret
    exact ⟨rfl, hb3⟩
  | true =>
    obtain ⟨n30, z30⟩ := few_sizes hF
    rw [HL.out] at n30
    have HF := hide hF; have ZL := hide z30
    clear hF z30
    obtain ⟨V, hV⟩ : ∃ V, Dg.validC l = V := ⟨_, rfl⟩
    go_wp2_with fail
    refine (Code.valid_of l A n c HL.out HW.out (by omega) w3 hS3.its V hV).mono ?_
    rintro e w4 ⟨rfl, hx4⟩
    have hS4 := hS3.below hx4
    have hb4 := bnext hb3 hx4
    clear hS3 hb3 hx4
    try clear hc1
    have hc1 := iCells0 hS4.row
    cases V with
    | false =>
      clear hV hc1
      go_wp2
      go_ret
      exact ⟨rfl, hb4⟩
    | true =>
      have HV := hide hV
      clear hV
      obtain ⟨k, hk⟩ : ∃ k, k0 % (n + 1) = k := ⟨_, rfl⟩
      have hkn : k ≤ n := by rw [← hk]; have := Nat.mod_lt k0 (show 0 < n + 1 by omega); omega
      have him : (k0 : Int).tmod ((n : Int) + 1) = (k : Int) := by rw [← hk]; rfl
      have hz : ((n : Int) + 1 == 0) = false := beq_eq_false_iff_ne.2 (by omega)
      have hwn : IntKind.i64.wrap ((n : Int) + 1) = (n : Int) + 1 := IntWalk.i64_in _ (by omega)
      have hi0 : (0 : Int) ≤ (k : Int) := by omega
      have hic : (k : Int) ≤ (c : Int) := by omega
      have HK := hide (show (l.take k).length = k by rw [List.length_take, HL.out]; omega)
      have hx2 := Below.news (Below.refl w4.heap.size w4) (.cells #[.slice A k c] 24)
      have hS90 : C2 w.heap.size w4.heap.size A n c l A k c (l.take k) (w4.alloc (.cells #[.slice A k c] 24)) := ⟨iNext hS4.row hx2, heap_alloc_new w4 (.cells #[.slice A k c] 24), hS4.its.keep hx2, (hS4.its.keep hx2).take k, hS4.env.next hx2⟩
      have hb90 := bnext hb4 hx2
      clear hx2 hS4 hb4
      go_wp2_with fail
      generalize w4.alloc (.cells #[.slice A k c] 24) = w90 at *
      generalize w4.heap.size = b2 at *
      clear hc1 hk him hz hwn hi0 hic
      have hT1 := textC_few (Dg.valid_take HV.out k (by rw [HL.out]; exact hkn)) (few_take HF.out k)
      have hT2 := textC_few HV.out HF.out
      obtain ⟨s1, hs1⟩ : ∃ s, Dg.B (Dg.textL (l.take k)) = s := ⟨_, rfl⟩
      obtain ⟨s2, hs2⟩ : ∃ s, Dg.B (Dg.textL l) = s := ⟨_, rfl⟩
      rw [hs1] at hT1
      rw [hs2] at hT2
      have hsz : s1.size ≤ s2.size := by rw [← hs1, ← hs2, Dg.size_B, Dg.size_B]; exact Dg.textL_take_le l k
      have hse : s2.extract 0 s1.size = s1 := by
        rw [← hs2, ← hs1, Dg.size_B, B_take, Dg.textL_take]
      have HT1 := hide hT1; have HT2 := hide hT2; have HSE := hide hse
      clear hT1 hT2 hs1 hs2 hse
      refine (Code.text_of (l.take k) A k c HK.out (fun x hx => HW.out x (List.mem_of_mem_take hx)) (by omega) w90 hS90.i2 (fun x hx => few_up ZL.out (by decide) x (List.mem_of_mem_take hx)) s1 0 HT1.out).mono ?_
      rintro e w91 ⟨rfl, hx91⟩
      have hS91 := hS90.below hx91
      have hb91 := bnext hb90 hx91
      clear hS90 hb90 hx91
      try clear hc1
      try clear hc2
      have hc1 := iCells0 hS91.r1
      have hc2 := iCells0 hS91.r2
      go_wp2_with fail
      refine (Code.text_of l A n c HL.out HW.out (by omega) w91 hS91.i1 (few_up ZL.out (by decide)) s2 0 HT2.out).mono ?_
      rintro e w92 ⟨rfl, hx92⟩
      have hS92 := hS91.below hx92
      have hb92 := bnext hb91 hx92
      clear hS91 hb91 hx92
      try clear hc1
      try clear hc2
      have hc1 := iCells0 hS92.r1
      have hc2 := iCells0 hS92.r2
      obtain ⟨L1, hL1⟩ : ∃ L, Dg.leavesC (l.take k) = L := ⟨_, rfl⟩
      obtain ⟨L2, hL2⟩ : ∃ L, Dg.leavesC l = L := ⟨_, rfl⟩
      have hLT : L2.take L1.length = L1 := by
        rw [← hL1, ← hL2]
        unfold Dg.leavesC
        rw [if_pos HV.out, if_pos (Dg.valid_take HV.out k (by rw [HL.out]; exact hkn))]
        exact Dg.leaves_take l k
      have hLn : L1.length ≤ L2.length := by
        have h9 := congrArg List.length hLT
        rw [List.length_take] at h9
        omega
      have HLT := hide hLT; have HL1 := hide hL1; have HL2 := hide hL2
      clear hLT hL1 hL2
      have hL2n : L2.length ≤ 30 := by
        have := Dg.leaves_len l
        rw [← HL2.out]
        unfold Dg.leavesC
        rw [if_pos HV.out, this]
        exact Nat.le_trans List.countP_le_length (by rw [HL.out]; exact n30)
      obtain ⟨m1, hm1⟩ : ∃ m, L1.length = m := ⟨_, rfl⟩
      obtain ⟨m2, hm2⟩ : ∃ m, L2.length = m := ⟨_, rfl⟩
      rw [hm1, hm2] at hLn
      rw [hm2] at hL2n
      have HM1 := hide hm1; have HM2 := hide hm2
      clear hm1 hm2
      go_upto_region 8 with (fail)
      try clear hc1
      try clear hc2
      refine wp_region_noPanic ?_
      refine wp_region_L (C2 w.heap.size b2 A n c l A k c (l.take k)) 9 hmx ?_
      have hdr := (Below.refl w92.heap.size w92).drew
      have hS93 : (C2 w.heap.size b2 A n c l A k c (l.take k)) w92.drew := hS92.below hdr
      have hb93 := bnext hb92 hdr
      clear hdr hS92 hb92
      generalize w92.drew = w93 at *
      refine wpAnyL_take (i := 0) (f0 := 8) (v := ?_) rfl (by decide +kernel) (by decide +kernel) (by decide +kernel) (by decide +kernel) (by decide +kernel) (fun _ _ _ h => h) (Or.inl ⟨by rfl, ?_⟩) hS93 ?_
      rotate_left
      · intro wS hS; have hc2 := iCells0 hS.r2; go_simp; (try with_reducible rfl)
      simp only [Act.put, List.getElem_toArray, List.getElem_cons_succ, List.getElem_cons_zero, List.setIfInBounds_toArray, List.set_cons_succ, List.set_cons_zero]
      refine wpAnyL_take (i := 2) (f0 := 8) (v := ?_) rfl (by decide +kernel) (by decide +kernel) (by decide +kernel) (by decide +kernel) (by decide +kernel) (fun _ _ _ h => h) (Or.inl ⟨by rfl, ?_⟩) hS93 ?_
      rotate_left
      · intro wS hS; have hc1 := iCells0 hS.r1; go_simp; (try with_reducible rfl)
      simp only [Act.put, List.getElem_toArray, List.getElem_cons_succ, List.getElem_cons_zero, List.setIfInBounds_toArray, List.set_cons_succ, List.set_cons_zero]
      refine wpAnyL_one (i := 1) (by decide +kernel) (by rfl) (fun K hK => ?_)
      rw [if_pos (by rfl)]
      go_simp
      refine (Code.leaves_of (l.take k) A k c HK.out (fun x hx => HW.out x (List.mem_of_mem_take hx)) (by omega) w93 hS93.env hS93.i2 (fun x hx => few_up ZL.out (by decide) x (List.mem_of_mem_take hx)) L1 HL1.out).mono ?_
      rintro e w94 ⟨⟨A1, c1, rfl, hc1, hst1⟩, hx94⟩
      have hS94 : (C2 w.heap.size b2 A n c l A k c (l.take k)) w94 := hS93.below hx94
      have hb94 := bnext hb93 hx94
      rw [HM1.out] at hc1 ⊢
      refine hK.out _ _ (Or.inr hS94) ?_
      clear hK K hS93 hb93 hx94
      try simp only [Act.put, List.getElem_toArray, List.getElem_cons_succ, List.getElem_cons_zero, List.setIfInBounds_toArray, List.set_cons_succ, List.set_cons_zero]
      refine wpAnyL_one (i := 3) (by decide +kernel) (by rfl) (fun K hK => ?_)
      rw [if_pos (by rfl)]
      go_simp
      refine (Code.leaves_of l A n c HL.out HW.out (by omega) w94 hS94.env hS94.i1 (few_up ZL.out (by decide)) L2 HL2.out).mono ?_
      rintro e w95 ⟨⟨A2, c2, rfl, hc2, hst2⟩, hx95⟩
      have hS95 : (C2 w.heap.size b2 A n c l A k c (l.take k)) w95 := hS94.below hx95
      have hb95 := bnext hb94 hx95
      rw [HM2.out] at hc2 ⊢
      have hst1 := hst1.keep2 hx95
      refine hK.out _ _ (Or.inr hS95) ?_
      clear hK K hS94 hb94 hx95
      try simp only [Act.put, List.getElem_toArray, List.getElem_cons_succ, List.getElem_cons_zero, List.setIfInBounds_toArray, List.set_cons_succ, List.set_cons_zero]
      refine wpAnyL_take (i := 4) (f0 := 8) (v := ?_) rfl (by decide +kernel) (by decide +kernel) (by decide +kernel) (by decide +kernel) (by decide +kernel) (fun _ _ _ h => h) (Or.inl ⟨by rfl, ?_⟩) hS95 ?_
      rotate_left
      · intro wS hS; go_simp; (try with_reducible rfl)
      simp only [Act.put, List.getElem_toArray, List.getElem_cons_succ, List.getElem_cons_zero, List.setIfInBounds_toArray, List.set_cons_succ, List.set_cons_zero]
      refine wpAnyL_take (i := 5) (f0 := 8) (v := ?_) rfl (by decide +kernel) (by decide +kernel) (by decide +kernel) (by decide +kernel) (by decide +kernel) (fun _ _ _ h => h) (Or.inl ⟨by rfl, ?_⟩) hS95 ?_
      rotate_left
      · intro wS hS; go_simp; (try with_reducible rfl)
      simp only [Act.put, List.getElem_toArray, List.getElem_cons_succ, List.getElem_cons_zero, List.setIfInBounds_toArray, List.set_cons_succ, List.set_cons_zero]
      refine wpAnyL_done (by decide +kernel) ?_ _
      refine NoPanic.normal ?_
      have hq1 := hc1; have hq2 := hc2
      clear hc1 hc2
      have hc1 := iCells0 hS95.r1
      have hc2 := iCells0 hS95.r2
      have hst2t := hst2.take m1
      have a1 : (m1 : Int) ≤ (m2 : Int) := by omega
      have a2 : (m1 : Int) ≤ (c2 : Int) := by omega
      have a3 : (s1.size : Int) ≤ (s2.size : Int) := by omega
      go_wp2_with fail
      refine (Code.valid_of (l.take k) A k c HK.out (fun x hx => HW.out x (List.mem_of_mem_take hx)) (by omega) w95 hS95.i2 true (Dg.valid_take HV.out k (by rw [HL.out]; exact hkn))).mono ?_
      rintro e wa ⟨rfl, hx⟩
      have hSa := hS95.below hx
      have hba := bnext hb95 hx
      have hst1 := hst1.keep2 hx
      have hst2t := hst2t.keep2 hx
      clear hS95 hb95 hx hst2 hc1 hc2
      have hse := HSE.out
      go_wp2_with fail
      refine (same_of A2 A1 c2 c1 (L2.take m1) L1 m1 m1 (by rw [List.length_take, HM2.out]; omega) HM1.out true (by rw [← HM1.out, HLT.out]; exact same_refl _) wa (by omega) (by omega) hst2t hst1).mono ?_
      rintro e wb ⟨rfl, hx⟩
      have hbb := bnext hba hx
      clear hSa hx hst1 hst2t hba
      go_wp2
      go_ret
      exact ⟨rfl, hbb⟩
end Go.Proofs.YtpldhempbdionaaGreatDoor

