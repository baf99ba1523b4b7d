/- Walks and laws of this seat, several texts in one. No conditions but those that each theorem states. -/
import Derived.Test.YtobhpeockinnjaaGreatDoorHR4
import Derived.Deep.RegionHeld3
/- Check of the reference. No conditions but those that each theorem states. -/
namespace Go.Proofs.YtobhpeockinnjaaGreatDoor
open Go Go.RowKit Go.Sort Go.Maps
set_option maxRecDepth 100000 in
set_option maxHeartbeats 16000000 in
theorem rpcheck_of (root : ByteArray) (p : Pf) (A : Option Addr) (m c : Nat) (hm : p.path.length = m) (hm2 : m ≤ 1048576) (hmc : m ≤ c) (hps : ∀ s ∈ p.path, s.size ≤ 1048576) (hz : ∀ s ∈ leafS p.it, s.size ≤ 10000) (w : World) (he : Env w) (hS : Strs w w.heap.size A p.path) (R : Bool) (hR : checkP root p = R) :
    Calls Tryz.prog 18 #[.string root, .agg #[.int .i64 p.count, .int .i64 p.idx, .int .i64 p.it.kind, .string p.it.id, .string p.it.parent, .string p.it.number, .string p.it.north, .string p.it.south, .bool p.it.gone, .slice A m c]] w fun e w' => e = .returned (.bool R) ∧ Below w.heap.size w w' := by
  have hx1 := Below.news (Below.refl w.heap.size w) (.cells #[.int .i64 p.count, .int .i64 p.idx, .int .i64 p.it.kind, .string p.it.id, .string p.it.parent, .string p.it.number, .string p.it.north, .string p.it.south, .bool p.it.gone, .slice A m c] 29)
  have hr1 := heap_alloc_new w (.cells #[.int .i64 p.count, .int .i64 p.idx, .int .i64 p.it.kind, .string p.it.id, .string p.it.parent, .string p.it.number, .string p.it.north, .string p.it.south, .bool p.it.gone, .slice A m c] 29)
  have hx2 := Below.news (Below.refl (w.alloc (.cells #[.int .i64 p.count, .int .i64 p.idx, .int .i64 p.it.kind, .string p.it.id, .string p.it.parent, .string p.it.number, .string p.it.north, .string p.it.south, .bool p.it.gone, .slice A m c] 29)).heap.size (w.alloc (.cells #[.int .i64 p.count, .int .i64 p.idx, .int .i64 p.it.kind, .string p.it.id, .string p.it.parent, .string p.it.number, .string p.it.north, .string p.it.south, .bool p.it.gone, .slice A m c] 29))) (.cells #[.int .i64 p.it.kind, .string p.it.id, .string p.it.parent, .string p.it.number, .string p.it.north, .string p.it.south, .bool p.it.gone] 26)
  have hr2 := heap_alloc_new (w.alloc (.cells #[.int .i64 p.count, .int .i64 p.idx, .int .i64 p.it.kind, .string p.it.id, .string p.it.parent, .string p.it.number, .string p.it.north, .string p.it.south, .bool p.it.gone, .slice A m c] 29)) (.cells #[.int .i64 p.it.kind, .string p.it.id, .string p.it.parent, .string p.it.number, .string p.it.north, .string p.it.south, .bool p.it.gone] 26)
  have hs1 : (w.alloc (.cells #[.int .i64 p.count, .int .i64 p.idx, .int .i64 p.it.kind, .string p.it.id, .string p.it.parent, .string p.it.number, .string p.it.north, .string p.it.south, .bool p.it.gone, .slice A m c] 29)).heap.size = w.heap.size + 1 := by simp
  rw [hs1] at hr2
  have hb1 := bnext hx1 hx2
  have hS1 : PS w.heap.size (w.heap.size + 1) p A m c ((w.alloc (.cells #[.int .i64 p.count, .int .i64 p.idx, .int .i64 p.it.kind, .string p.it.id, .string p.it.parent, .string p.it.number, .string p.it.north, .string p.it.south, .bool p.it.gone, .slice A m c] 29)).alloc (.cells #[.int .i64 p.it.kind, .string p.it.id, .string p.it.parent, .string p.it.number, .string p.it.north, .string p.it.south, .bool p.it.gone] 26)) := ⟨iNext hr1 hx2, hr2, keepS hS hb1⟩
  have HM := hide hm; have HPS := hide hps; have HZ := hide hz; have HR := hide hR; have HE := hide he
  obtain ⟨x, hx⟩ : ∃ x, p.it = x := ⟨_, rfl⟩
  obtain ⟨P1, hP1⟩ : ∃ q, p.path = q := ⟨_, rfl⟩
  clear hr2 hx2 hs1 hS hm hps hz hR he
  have hmx : Tryz.prog.follows .mixedOrders = true := by kernel_rfl
  have hne : p.it.number.toList.isEmpty = decide (p.it.number = Dg.nil8) := (emp_iff _).symm
  obtain ⟨c0, c1, c2, c3, c4, c5, c6, c7, c8, c9⟩ := jCells10 hr1
  clear hx hP1
  go_enter Tryz.func18, Tryz.ntmps18
  go_upto_region 2 with (fail)
  clear c0 c1 c2 c3 c4 c5 c6 c7 c8 c9 hr1 hx1
  generalize (w.alloc (.cells #[.int .i64 p.count, .int .i64 p.idx, .int .i64 p.it.kind, .string p.it.id, .string p.it.parent, .string p.it.number, .string p.it.north, .string p.it.south, .bool p.it.gone, .slice A m c] 29)).alloc (.cells #[.int .i64 p.it.kind, .string p.it.id, .string p.it.parent, .string p.it.number, .string p.it.north, .string p.it.south, .bool p.it.gone] 26) = w1 at *
  by_cases k2 : p.it.kind = 2
  · have kb2 : (p.it.kind == 2) = true := beq_iff_eq.2 k2
    clear k2
    have HKO := hide (show kindOk p.it = true by unfold kindOk; rw [kb2, Bool.true_or])
    cases hN : decide (p.it.number = Dg.nil8) with
    | false =>
      rw [hN] at hne
      have E9 := hide (show false = R by rw [← HR.out]; exact (checkP_num hN).symm)
      clear hN
      try clear hc1
      try clear hc2
      refine wp_region_noPanic ?_
      refine wp_region_L (PS w.heap.size (w.heap.size + 1) p A m c) 31 hmx ?_
      have hdr := (Below.refl w1.heap.size w1).drew
      have hS2 : (PS w.heap.size (w.heap.size + 1) p A m c) w1.drew := hS1.below hdr
      have hb2 := bnext hb1 hdr
      clear hdr hS1 hb1
      generalize w1.drew = w2 at *
      refine wpAnyL_take (i := 0) (f0 := 33) (v := ?_) rfl (by decide +kernel) (by decide +kernel) (by decide +kernel) (by decide +kernel) (by decide +kernel) (fun _ _ _ h => h) (Or.inl ⟨by rfl, ?_⟩) hS2 ?_
      rotate_left
      · intro wS hS; go_simp; (try with_reducible rfl)
      simp only [Act.put, List.getElem_toArray, List.getElem_cons_zero, List.setIfInBounds_toArray, List.set_cons_succ, List.set_cons_zero]
      refine wpAnyL_take (i := 1) (f0 := 33) (v := ?_) rfl (by decide +kernel) (by decide +kernel) (by decide +kernel) (by decide +kernel) (by decide +kernel) (fun _ _ _ h => h) (Or.inl ⟨by rfl, ?_⟩) hS2 ?_
      rotate_left
      · intro wS hS; obtain ⟨q0, q1, q2, q3, q4, q5, q6⟩ := iCells hS.r2; go_simp; (try with_reducible rfl)
      simp only [Act.put, List.getElem_toArray, List.getElem_cons_succ, List.getElem_cons_zero, List.setIfInBounds_toArray, List.set_cons_succ, List.set_cons_zero]
      refine wpAnyL_take (i := 2) (f0 := 33) (v := ?_) rfl (by decide +kernel) (by decide +kernel) (by decide +kernel) (by decide +kernel) (by decide +kernel) (fun _ _ _ h => h) (Or.inl ⟨by rfl, ?_⟩) hS2 ?_
      rotate_left
      · intro wS hS; go_simp; (try with_reducible rfl)
      simp only [Act.put, List.getElem_toArray, List.getElem_cons_succ, List.getElem_cons_zero, List.setIfInBounds_toArray, List.set_cons_succ, List.set_cons_zero]
      refine wpAnyL_take (i := 3) (f0 := 33) (v := ?_) rfl (by decide +kernel) (by decide +kernel) (by decide +kernel) (by decide +kernel) (by decide +kernel) (fun _ _ _ h => h) (Or.inl ⟨by rfl, ?_⟩) hS2 ?_
      rotate_left
      · intro wS hS; go_simp; (try with_reducible rfl)
      simp only [Act.put, List.getElem_toArray, List.getElem_cons_succ, List.getElem_cons_zero, List.setIfInBounds_toArray, List.set_cons_succ, List.set_cons_zero]
      refine wpAnyL_take (i := 4) (f0 := 33) (v := undef) rfl (by decide +kernel) (by decide +kernel) (by decide +kernel) (by decide +kernel) (by decide +kernel) (fun _ _ _ h => h) (Or.inr ⟨by rfl, rfl⟩) hS2 ?_
      simp only [Act.put, List.getElem_toArray, List.getElem_cons_succ, List.getElem_cons_zero, List.setIfInBounds_toArray, List.set_cons_succ, List.set_cons_zero]
      refine wpAnyL_take (i := 5) (f0 := 33) (v := undef) rfl (by decide +kernel) (by decide +kernel) (by decide +kernel) (by decide +kernel) (by decide +kernel) (fun _ _ _ h => h) (Or.inr ⟨by rfl, rfl⟩) hS2 ?_
      simp only [Act.put, List.getElem_toArray, List.getElem_cons_succ, List.getElem_cons_zero, List.setIfInBounds_toArray, List.set_cons_succ, List.set_cons_zero]
      refine wpAnyL_take (i := 6) (f0 := 33) (v := undef) rfl (by decide +kernel) (by decide +kernel) (by decide +kernel) (by decide +kernel) (by decide +kernel) (fun _ _ _ h => h) (Or.inr ⟨by rfl, rfl⟩) hS2 ?_
      simp only [Act.put, List.getElem_toArray, List.getElem_cons_succ, List.getElem_cons_zero, List.setIfInBounds_toArray, List.set_cons_succ, List.set_cons_zero]
      refine wpAnyL_take (i := 7) (f0 := 33) (v := ?_) rfl (by decide +kernel) (by decide +kernel) (by decide +kernel) (by decide +kernel) (by decide +kernel) (fun _ _ _ h => h) (Or.inl ⟨by rfl, ?_⟩) hS2 ?_
      rotate_left
      · intro wS hS; go_simp; (try with_reducible rfl)
      simp only [Act.put, List.getElem_toArray, List.getElem_cons_succ, List.getElem_cons_zero, List.setIfInBounds_toArray, List.set_cons_succ, List.set_cons_zero]
      refine wpAnyL_take (i := 8) (f0 := 33) (v := ?_) rfl (by decide +kernel) (by decide +kernel) (by decide +kernel) (by decide +kernel) (by decide +kernel) (fun _ _ _ h => h) (Or.inl ⟨by rfl, ?_⟩) hS2 ?_
      rotate_left
      · intro wS hS; go_simp; (try with_reducible rfl)
      simp only [Act.put, List.getElem_toArray, List.getElem_cons_succ, List.getElem_cons_zero, List.setIfInBounds_toArray, List.set_cons_succ, List.set_cons_zero]
      refine wpAnyL_take (i := 9) (f0 := 33) (v := ?_) rfl (by decide +kernel) (by decide +kernel) (by decide +kernel) (by decide +kernel) (by decide +kernel) (fun _ _ _ h => h) (Or.inl ⟨by rfl, ?_⟩) hS2 ?_
      rotate_left
      · intro wS hS; go_simp; (try with_reducible rfl)
      simp only [Act.put, List.getElem_toArray, List.getElem_cons_succ, List.getElem_cons_zero, List.setIfInBounds_toArray, List.set_cons_succ, List.set_cons_zero]
      refine wpAnyL_take (i := 10) (f0 := 33) (v := ?_) rfl (by decide +kernel) (by decide +kernel) (by decide +kernel) (by decide +kernel) (by decide +kernel) (fun _ _ _ h => h) (Or.inl ⟨by rfl, ?_⟩) hS2 ?_
      rotate_left
      · intro wS hS; obtain ⟨q0, q1, q2, q3, q4, q5, q6⟩ := iCells hS.r2; go_simp; (try with_reducible rfl)
      simp only [Act.put, List.getElem_toArray, List.getElem_cons_succ, List.getElem_cons_zero, List.setIfInBounds_toArray, List.set_cons_succ, List.set_cons_zero]
      refine wpAnyL_take (i := 11) (f0 := 33) (v := ?_) rfl (by decide +kernel) (by decide +kernel) (by decide +kernel) (by decide +kernel) (by decide +kernel) (fun _ _ _ h => h) (Or.inl ⟨by rfl, ?_⟩) hS2 ?_
      rotate_left
      · intro wS hS; go_simp; (try with_reducible rfl)
      simp only [Act.put, List.getElem_toArray, List.getElem_cons_succ, List.getElem_cons_zero, List.setIfInBounds_toArray, List.set_cons_succ, List.set_cons_zero]
      refine wpAnyL_take (i := 12) (f0 := 33) (v := ?_) rfl (by decide +kernel) (by decide +kernel) (by decide +kernel) (by decide +kernel) (by decide +kernel) (fun _ _ _ h => h) (Or.inl ⟨by rfl, ?_⟩) hS2 ?_
      rotate_left
      · intro wS hS; go_simp; (try with_reducible rfl)
      simp only [Act.put, List.getElem_toArray, List.getElem_cons_succ, List.getElem_cons_zero, List.setIfInBounds_toArray, List.set_cons_succ, List.set_cons_zero]
      refine wpAnyL_take (i := 13) (f0 := 33) (v := ?_) rfl (by decide +kernel) (by decide +kernel) (by decide +kernel) (by decide +kernel) (by decide +kernel) (fun _ _ _ h => h) (Or.inl ⟨by rfl, ?_⟩) hS2 ?_
      rotate_left
      · intro wS hS; go_simp; (try with_reducible rfl)
      simp only [Act.put, List.getElem_toArray, List.getElem_cons_succ, List.getElem_cons_zero, List.setIfInBounds_toArray, List.set_cons_succ, List.set_cons_zero]
      refine wpAnyL_take (i := 14) (f0 := 33) (v := undef) rfl (by decide +kernel) (by decide +kernel) (by decide +kernel) (by decide +kernel) (by decide +kernel) (fun _ _ _ h => h) (Or.inr ⟨by rfl, rfl⟩) hS2 ?_
      simp only [Act.put, List.getElem_toArray, List.getElem_cons_succ, List.getElem_cons_zero, List.setIfInBounds_toArray, List.set_cons_succ, List.set_cons_zero]
      refine wpAnyL_take (i := 15) (f0 := 33) (v := undef) rfl (by decide +kernel) (by decide +kernel) (by decide +kernel) (by decide +kernel) (by decide +kernel) (fun _ _ _ h => h) (Or.inr ⟨by rfl, rfl⟩) hS2 ?_
      simp only [Act.put, List.getElem_toArray, List.getElem_cons_succ, List.getElem_cons_zero, List.setIfInBounds_toArray, List.set_cons_succ, List.set_cons_zero]
      refine wpAnyL_take (i := 16) (f0 := 33) (v := undef) rfl (by decide +kernel) (by decide +kernel) (by decide +kernel) (by decide +kernel) (by decide +kernel) (fun _ _ _ h => h) (Or.inr ⟨by rfl, rfl⟩) hS2 ?_
      simp only [Act.put, List.getElem_toArray, List.getElem_cons_succ, List.getElem_cons_zero, List.setIfInBounds_toArray, List.set_cons_succ, List.set_cons_zero]
      refine wpAnyL_take (i := 17) (f0 := 33) (v := ?_) rfl (by decide +kernel) (by decide +kernel) (by decide +kernel) (by decide +kernel) (by decide +kernel) (fun _ _ _ h => h) (Or.inl ⟨by rfl, ?_⟩) hS2 ?_
      rotate_left
      · intro wS hS; go_simp; (try with_reducible rfl)
      simp only [Act.put, List.getElem_toArray, List.getElem_cons_succ, List.getElem_cons_zero, List.setIfInBounds_toArray, List.set_cons_succ, List.set_cons_zero]
      refine wpAnyL_take (i := 18) (f0 := 33) (v := ?_) rfl (by decide +kernel) (by decide +kernel) (by decide +kernel) (by decide +kernel) (by decide +kernel) (fun _ _ _ h => h) (Or.inl ⟨by rfl, ?_⟩) hS2 ?_
      rotate_left
      · intro wS hS; go_simp; (try with_reducible rfl)
      simp only [Act.put, List.getElem_toArray, List.getElem_cons_succ, List.getElem_cons_zero, List.setIfInBounds_toArray, List.set_cons_succ, List.set_cons_zero]
      refine wpAnyL_take (i := 19) (f0 := 33) (v := undef) rfl (by decide +kernel) (by decide +kernel) (by decide +kernel) (by decide +kernel) (by decide +kernel) (fun _ _ _ h => h) (Or.inr ⟨by rfl, rfl⟩) hS2 ?_
      simp only [Act.put, List.getElem_toArray, List.getElem_cons_succ, List.getElem_cons_zero, List.setIfInBounds_toArray, List.set_cons_succ, List.set_cons_zero]
      refine wpAnyL_take (i := 20) (f0 := 33) (v := undef) rfl (by decide +kernel) (by decide +kernel) (by decide +kernel) (by decide +kernel) (by decide +kernel) (fun _ _ _ h => h) (Or.inr ⟨by rfl, rfl⟩) hS2 ?_
      simp only [Act.put, List.getElem_toArray, List.getElem_cons_succ, List.getElem_cons_zero, List.setIfInBounds_toArray, List.set_cons_succ, List.set_cons_zero]
      refine wpAnyL_take (i := 21) (f0 := 33) (v := undef) rfl (by decide +kernel) (by decide +kernel) (by decide +kernel) (by decide +kernel) (by decide +kernel) (fun _ _ _ h => h) (Or.inr ⟨by rfl, rfl⟩) hS2 ?_
      simp only [Act.put, List.getElem_toArray, List.getElem_cons_succ, List.getElem_cons_zero, List.setIfInBounds_toArray, List.set_cons_succ, List.set_cons_zero]
      refine wpAnyL_take (i := 22) (f0 := 33) (v := undef) rfl (by decide +kernel) (by decide +kernel) (by decide +kernel) (by decide +kernel) (by decide +kernel) (fun _ _ _ h => h) (Or.inr ⟨by rfl, rfl⟩) hS2 ?_
      simp only [Act.put, List.getElem_toArray, List.getElem_cons_succ, List.getElem_cons_zero, List.setIfInBounds_toArray, List.set_cons_succ, List.set_cons_zero]
      refine wpAnyL_take (i := 23) (f0 := 33) (v := undef) rfl (by decide +kernel) (by decide +kernel) (by decide +kernel) (by decide +kernel) (by decide +kernel) (fun _ _ _ h => h) (Or.inr ⟨by rfl, rfl⟩) hS2 ?_
      simp only [Act.put, List.getElem_toArray, List.getElem_cons_succ, List.getElem_cons_zero, List.setIfInBounds_toArray, List.set_cons_succ, List.set_cons_zero]
      refine wpAnyL_take (i := 24) (f0 := 33) (v := undef) rfl (by decide +kernel) (by decide +kernel) (by decide +kernel) (by decide +kernel) (by decide +kernel) (fun _ _ _ h => h) (Or.inr ⟨by rfl, rfl⟩) hS2 ?_
      simp only [Act.put, List.getElem_toArray, List.getElem_cons_succ, List.getElem_cons_zero, List.setIfInBounds_toArray, List.set_cons_succ, List.set_cons_zero]
      refine wpAnyL_take (i := 25) (f0 := 33) (v := undef) rfl (by decide +kernel) (by decide +kernel) (by decide +kernel) (by decide +kernel) (by decide +kernel) (fun _ _ _ h => h) (Or.inr ⟨by rfl, rfl⟩) hS2 ?_
      simp only [Act.put, List.getElem_toArray, List.getElem_cons_succ, List.getElem_cons_zero, List.setIfInBounds_toArray, List.set_cons_succ, List.set_cons_zero]
      refine wpAnyL_take (i := 26) (f0 := 33) (v := undef) rfl (by decide +kernel) (by decide +kernel) (by decide +kernel) (by decide +kernel) (by decide +kernel) (fun _ _ _ h => h) (Or.inr ⟨by rfl, rfl⟩) hS2 ?_
      simp only [Act.put, List.getElem_toArray, List.getElem_cons_succ, List.getElem_cons_zero, List.setIfInBounds_toArray, List.set_cons_succ, List.set_cons_zero]
      refine wpAnyL_take (i := 27) (f0 := 33) (v := undef) rfl (by decide +kernel) (by decide +kernel) (by decide +kernel) (by decide +kernel) (by decide +kernel) (fun _ _ _ h => h) (Or.inr ⟨by rfl, rfl⟩) hS2 ?_
      simp only [Act.put, List.getElem_toArray, List.getElem_cons_succ, List.getElem_cons_zero, List.setIfInBounds_toArray, List.set_cons_succ, List.set_cons_zero]
      refine wpAnyL_take (i := 28) (f0 := 33) (v := undef) rfl (by decide +kernel) (by decide +kernel) (by decide +kernel) (by decide +kernel) (by decide +kernel) (fun _ _ _ h => h) (Or.inr ⟨by rfl, rfl⟩) hS2 ?_
      simp only [Act.put, List.getElem_toArray, List.getElem_cons_succ, List.getElem_cons_zero, List.setIfInBounds_toArray, List.set_cons_succ, List.set_cons_zero]
      refine wpAnyL_take (i := 29) (f0 := 33) (v := ?_) rfl (by decide +kernel) (by decide +kernel) (by decide +kernel) (by decide +kernel) (by decide +kernel) (fun _ _ _ h => h) (Or.inl ⟨by rfl, ?_⟩) hS2 ?_
      rotate_left
      · intro wS hS; go_simp; (try with_reducible rfl)
      simp only [Act.put, List.getElem_toArray, List.getElem_cons_succ, List.getElem_cons_zero, List.setIfInBounds_toArray, List.set_cons_succ, List.set_cons_zero]
      refine wpAnyL_take (i := 30) (f0 := 33) (v := ?_) rfl (by decide +kernel) (by decide +kernel) (by decide +kernel) (by decide +kernel) (by decide +kernel) (fun _ _ _ h => h) (Or.inl ⟨by rfl, ?_⟩) hS2 ?_
      rotate_left
      · intro wS hS; go_simp; (try with_reducible rfl)
      simp only [Act.put, List.getElem_toArray, List.getElem_cons_succ, List.getElem_cons_zero, List.setIfInBounds_toArray, List.set_cons_succ, List.set_cons_zero]
      refine wpAnyL_done (by decide +kernel) ?_ _
      refine NoPanic.normal ?_
      go_wp2
      go_ret
      exact ⟨ret_bool E9.out, hb2⟩
    | true =>
      rw [hN] at hne
      have HNO := hide hN
      clear hN
      cases hg : p.it.gone with
      | true =>
        have E9 := hide (show false = R by rw [← HR.out]; exact (checkP_gone hg).symm)
        try clear hc1
        try clear hc2
        refine wp_region_noPanic ?_
        refine wp_region_L (PS w.heap.size (w.heap.size + 1) p A m c) 31 hmx ?_
        have hdr := (Below.refl w1.heap.size w1).drew
        have hS2 : (PS w.heap.size (w.heap.size + 1) p A m c) w1.drew := hS1.below hdr
        have hb2 := bnext hb1 hdr
        clear hdr hS1 hb1
        generalize w1.drew = w2 at *
        refine wpAnyL_take (i := 0) (f0 := 33) (v := ?_) rfl (by decide +kernel) (by decide +kernel) (by decide +kernel) (by decide +kernel) (by decide +kernel) (fun _ _ _ h => h) (Or.inl ⟨by rfl, ?_⟩) hS2 ?_
        rotate_left
        · intro wS hS; go_simp; (try with_reducible rfl)
        simp only [Act.put, List.getElem_toArray, List.getElem_cons_zero, List.setIfInBounds_toArray, List.set_cons_succ, List.set_cons_zero]
        refine wpAnyL_take (i := 1) (f0 := 33) (v := ?_) rfl (by decide +kernel) (by decide +kernel) (by decide +kernel) (by decide +kernel) (by decide +kernel) (fun _ _ _ h => h) (Or.inl ⟨by rfl, ?_⟩) hS2 ?_
        rotate_left
        · intro wS hS; obtain ⟨q0, q1, q2, q3, q4, q5, q6⟩ := iCells hS.r2; go_simp; (try with_reducible rfl)
        simp only [Act.put, List.getElem_toArray, List.getElem_cons_succ, List.getElem_cons_zero, List.setIfInBounds_toArray, List.set_cons_succ, List.set_cons_zero]
        refine wpAnyL_take (i := 2) (f0 := 33) (v := ?_) rfl (by decide +kernel) (by decide +kernel) (by decide +kernel) (by decide +kernel) (by decide +kernel) (fun _ _ _ h => h) (Or.inl ⟨by rfl, ?_⟩) hS2 ?_
        rotate_left
        · intro wS hS; go_simp; (try with_reducible rfl)
        simp only [Act.put, List.getElem_toArray, List.getElem_cons_succ, List.getElem_cons_zero, List.setIfInBounds_toArray, List.set_cons_succ, List.set_cons_zero]
        refine wpAnyL_take (i := 3) (f0 := 33) (v := ?_) rfl (by decide +kernel) (by decide +kernel) (by decide +kernel) (by decide +kernel) (by decide +kernel) (fun _ _ _ h => h) (Or.inl ⟨by rfl, ?_⟩) hS2 ?_
        rotate_left
        · intro wS hS; go_simp; (try with_reducible rfl)
        simp only [Act.put, List.getElem_toArray, List.getElem_cons_succ, List.getElem_cons_zero, List.setIfInBounds_toArray, List.set_cons_succ, List.set_cons_zero]
        refine wpAnyL_take (i := 4) (f0 := 33) (v := undef) rfl (by decide +kernel) (by decide +kernel) (by decide +kernel) (by decide +kernel) (by decide +kernel) (fun _ _ _ h => h) (Or.inr ⟨by rfl, rfl⟩) hS2 ?_
        simp only [Act.put, List.getElem_toArray, List.getElem_cons_succ, List.getElem_cons_zero, List.setIfInBounds_toArray, List.set_cons_succ, List.set_cons_zero]
        refine wpAnyL_take (i := 5) (f0 := 33) (v := undef) rfl (by decide +kernel) (by decide +kernel) (by decide +kernel) (by decide +kernel) (by decide +kernel) (fun _ _ _ h => h) (Or.inr ⟨by rfl, rfl⟩) hS2 ?_
        simp only [Act.put, List.getElem_toArray, List.getElem_cons_succ, List.getElem_cons_zero, List.setIfInBounds_toArray, List.set_cons_succ, List.set_cons_zero]
        refine wpAnyL_take (i := 6) (f0 := 33) (v := undef) rfl (by decide +kernel) (by decide +kernel) (by decide +kernel) (by decide +kernel) (by decide +kernel) (fun _ _ _ h => h) (Or.inr ⟨by rfl, rfl⟩) hS2 ?_
        simp only [Act.put, List.getElem_toArray, List.getElem_cons_succ, List.getElem_cons_zero, List.setIfInBounds_toArray, List.set_cons_succ, List.set_cons_zero]
        refine wpAnyL_take (i := 7) (f0 := 33) (v := ?_) rfl (by decide +kernel) (by decide +kernel) (by decide +kernel) (by decide +kernel) (by decide +kernel) (fun _ _ _ h => h) (Or.inl ⟨by rfl, ?_⟩) hS2 ?_
        rotate_left
        · intro wS hS; go_simp; (try with_reducible rfl)
        simp only [Act.put, List.getElem_toArray, List.getElem_cons_succ, List.getElem_cons_zero, List.setIfInBounds_toArray, List.set_cons_succ, List.set_cons_zero]
        refine wpAnyL_take (i := 8) (f0 := 33) (v := ?_) rfl (by decide +kernel) (by decide +kernel) (by decide +kernel) (by decide +kernel) (by decide +kernel) (fun _ _ _ h => h) (Or.inl ⟨by rfl, ?_⟩) hS2 ?_
        rotate_left
        · intro wS hS; go_simp; (try with_reducible rfl)
        simp only [Act.put, List.getElem_toArray, List.getElem_cons_succ, List.getElem_cons_zero, List.setIfInBounds_toArray, List.set_cons_succ, List.set_cons_zero]
        refine wpAnyL_take (i := 9) (f0 := 33) (v := ?_) rfl (by decide +kernel) (by decide +kernel) (by decide +kernel) (by decide +kernel) (by decide +kernel) (fun _ _ _ h => h) (Or.inl ⟨by rfl, ?_⟩) hS2 ?_
        rotate_left
        · intro wS hS; go_simp; (try with_reducible rfl)
        simp only [Act.put, List.getElem_toArray, List.getElem_cons_succ, List.getElem_cons_zero, List.setIfInBounds_toArray, List.set_cons_succ, List.set_cons_zero]
        refine wpAnyL_take (i := 10) (f0 := 33) (v := ?_) rfl (by decide +kernel) (by decide +kernel) (by decide +kernel) (by decide +kernel) (by decide +kernel) (fun _ _ _ h => h) (Or.inl ⟨by rfl, ?_⟩) hS2 ?_
        rotate_left
        · intro wS hS; obtain ⟨q0, q1, q2, q3, q4, q5, q6⟩ := iCells hS.r2; go_simp; (try with_reducible rfl)
        simp only [Act.put, List.getElem_toArray, List.getElem_cons_succ, List.getElem_cons_zero, List.setIfInBounds_toArray, List.set_cons_succ, List.set_cons_zero]
        refine wpAnyL_take (i := 11) (f0 := 33) (v := ?_) rfl (by decide +kernel) (by decide +kernel) (by decide +kernel) (by decide +kernel) (by decide +kernel) (fun _ _ _ h => h) (Or.inl ⟨by rfl, ?_⟩) hS2 ?_
        rotate_left
        · intro wS hS; go_simp; (try with_reducible rfl)
        simp only [Act.put, List.getElem_toArray, List.getElem_cons_succ, List.getElem_cons_zero, List.setIfInBounds_toArray, List.set_cons_succ, List.set_cons_zero]
        refine wpAnyL_take (i := 12) (f0 := 33) (v := ?_) rfl (by decide +kernel) (by decide +kernel) (by decide +kernel) (by decide +kernel) (by decide +kernel) (fun _ _ _ h => h) (Or.inl ⟨by rfl, ?_⟩) hS2 ?_
        rotate_left
        · intro wS hS; go_simp; (try with_reducible rfl)
        simp only [Act.put, List.getElem_toArray, List.getElem_cons_succ, List.getElem_cons_zero, List.setIfInBounds_toArray, List.set_cons_succ, List.set_cons_zero]
        refine wpAnyL_take (i := 13) (f0 := 33) (v := ?_) rfl (by decide +kernel) (by decide +kernel) (by decide +kernel) (by decide +kernel) (by decide +kernel) (fun _ _ _ h => h) (Or.inl ⟨by rfl, ?_⟩) hS2 ?_
        rotate_left
        · intro wS hS; go_simp; (try with_reducible rfl)
        simp only [Act.put, List.getElem_toArray, List.getElem_cons_succ, List.getElem_cons_zero, List.setIfInBounds_toArray, List.set_cons_succ, List.set_cons_zero]
        refine wpAnyL_take (i := 14) (f0 := 33) (v := ?_) rfl (by decide +kernel) (by decide +kernel) (by decide +kernel) (by decide +kernel) (by decide +kernel) (fun _ _ _ h => h) (Or.inl ⟨by rfl, ?_⟩) hS2 ?_
        rotate_left
        · intro wS hS; go_simp; (try with_reducible rfl)
        simp only [Act.put, List.getElem_toArray, List.getElem_cons_succ, List.getElem_cons_zero, List.setIfInBounds_toArray, List.set_cons_succ, List.set_cons_zero]
        refine wpAnyL_take (i := 15) (f0 := 33) (v := ?_) rfl (by decide +kernel) (by decide +kernel) (by decide +kernel) (by decide +kernel) (by decide +kernel) (fun _ _ _ h => h) (Or.inl ⟨by rfl, ?_⟩) hS2 ?_
        rotate_left
        · intro wS hS; obtain ⟨q0, q1, q2, q3, q4, q5, q6⟩ := iCells hS.r2; go_simp; (try with_reducible rfl)
        simp only [Act.put, List.getElem_toArray, List.getElem_cons_succ, List.getElem_cons_zero, List.setIfInBounds_toArray, List.set_cons_succ, List.set_cons_zero]
        refine wpAnyL_take (i := 16) (f0 := 33) (v := ?_) rfl (by decide +kernel) (by decide +kernel) (by decide +kernel) (by decide +kernel) (by decide +kernel) (fun _ _ _ h => h) (Or.inl ⟨by rfl, ?_⟩) hS2 ?_
        rotate_left
        · intro wS hS; go_simp; (try with_reducible rfl)
        simp only [Act.put, List.getElem_toArray, List.getElem_cons_succ, List.getElem_cons_zero, List.setIfInBounds_toArray, List.set_cons_succ, List.set_cons_zero]
        refine wpAnyL_take (i := 17) (f0 := 33) (v := ?_) rfl (by decide +kernel) (by decide +kernel) (by decide +kernel) (by decide +kernel) (by decide +kernel) (fun _ _ _ h => h) (Or.inl ⟨by rfl, ?_⟩) hS2 ?_
        rotate_left
        · intro wS hS; go_simp; (try with_reducible rfl)
        simp only [Act.put, List.getElem_toArray, List.getElem_cons_succ, List.getElem_cons_zero, List.setIfInBounds_toArray, List.set_cons_succ, List.set_cons_zero]
        refine wpAnyL_take (i := 18) (f0 := 33) (v := ?_) rfl (by decide +kernel) (by decide +kernel) (by decide +kernel) (by decide +kernel) (by decide +kernel) (fun _ _ _ h => h) (Or.inl ⟨by rfl, ?_⟩) hS2 ?_
        rotate_left
        · intro wS hS; go_simp; (try with_reducible rfl)
        simp only [Act.put, List.getElem_toArray, List.getElem_cons_succ, List.getElem_cons_zero, List.setIfInBounds_toArray, List.set_cons_succ, List.set_cons_zero]
        refine wpAnyL_take (i := 19) (f0 := 33) (v := undef) rfl (by decide +kernel) (by decide +kernel) (by decide +kernel) (by decide +kernel) (by decide +kernel) (fun _ _ _ h => h) (Or.inr ⟨by rfl, rfl⟩) hS2 ?_
        simp only [Act.put, List.getElem_toArray, List.getElem_cons_succ, List.getElem_cons_zero, List.setIfInBounds_toArray, List.set_cons_succ, List.set_cons_zero]
        refine wpAnyL_take (i := 20) (f0 := 33) (v := undef) rfl (by decide +kernel) (by decide +kernel) (by decide +kernel) (by decide +kernel) (by decide +kernel) (fun _ _ _ h => h) (Or.inr ⟨by rfl, rfl⟩) hS2 ?_
        simp only [Act.put, List.getElem_toArray, List.getElem_cons_succ, List.getElem_cons_zero, List.setIfInBounds_toArray, List.set_cons_succ, List.set_cons_zero]
        refine wpAnyL_take (i := 21) (f0 := 33) (v := undef) rfl (by decide +kernel) (by decide +kernel) (by decide +kernel) (by decide +kernel) (by decide +kernel) (fun _ _ _ h => h) (Or.inr ⟨by rfl, rfl⟩) hS2 ?_
        simp only [Act.put, List.getElem_toArray, List.getElem_cons_succ, List.getElem_cons_zero, List.setIfInBounds_toArray, List.set_cons_succ, List.set_cons_zero]
        refine wpAnyL_take (i := 22) (f0 := 33) (v := undef) rfl (by decide +kernel) (by decide +kernel) (by decide +kernel) (by decide +kernel) (by decide +kernel) (fun _ _ _ h => h) (Or.inr ⟨by rfl, rfl⟩) hS2 ?_
        simp only [Act.put, List.getElem_toArray, List.getElem_cons_succ, List.getElem_cons_zero, List.setIfInBounds_toArray, List.set_cons_succ, List.set_cons_zero]
        refine wpAnyL_take (i := 23) (f0 := 33) (v := undef) rfl (by decide +kernel) (by decide +kernel) (by decide +kernel) (by decide +kernel) (by decide +kernel) (fun _ _ _ h => h) (Or.inr ⟨by rfl, rfl⟩) hS2 ?_
        simp only [Act.put, List.getElem_toArray, List.getElem_cons_succ, List.getElem_cons_zero, List.setIfInBounds_toArray, List.set_cons_succ, List.set_cons_zero]
        refine wpAnyL_take (i := 24) (f0 := 33) (v := undef) rfl (by decide +kernel) (by decide +kernel) (by decide +kernel) (by decide +kernel) (by decide +kernel) (fun _ _ _ h => h) (Or.inr ⟨by rfl, rfl⟩) hS2 ?_
        simp only [Act.put, List.getElem_toArray, List.getElem_cons_succ, List.getElem_cons_zero, List.setIfInBounds_toArray, List.set_cons_succ, List.set_cons_zero]
        refine wpAnyL_take (i := 25) (f0 := 33) (v := undef) rfl (by decide +kernel) (by decide +kernel) (by decide +kernel) (by decide +kernel) (by decide +kernel) (fun _ _ _ h => h) (Or.inr ⟨by rfl, rfl⟩) hS2 ?_
        simp only [Act.put, List.getElem_toArray, List.getElem_cons_succ, List.getElem_cons_zero, List.setIfInBounds_toArray, List.set_cons_succ, List.set_cons_zero]
        refine wpAnyL_take (i := 26) (f0 := 33) (v := undef) rfl (by decide +kernel) (by decide +kernel) (by decide +kernel) (by decide +kernel) (by decide +kernel) (fun _ _ _ h => h) (Or.inr ⟨by rfl, rfl⟩) hS2 ?_
        simp only [Act.put, List.getElem_toArray, List.getElem_cons_succ, List.getElem_cons_zero, List.setIfInBounds_toArray, List.set_cons_succ, List.set_cons_zero]
        refine wpAnyL_take (i := 27) (f0 := 33) (v := undef) rfl (by decide +kernel) (by decide +kernel) (by decide +kernel) (by decide +kernel) (by decide +kernel) (fun _ _ _ h => h) (Or.inr ⟨by rfl, rfl⟩) hS2 ?_
        simp only [Act.put, List.getElem_toArray, List.getElem_cons_succ, List.getElem_cons_zero, List.setIfInBounds_toArray, List.set_cons_succ, List.set_cons_zero]
        refine wpAnyL_take (i := 28) (f0 := 33) (v := undef) rfl (by decide +kernel) (by decide +kernel) (by decide +kernel) (by decide +kernel) (by decide +kernel) (fun _ _ _ h => h) (Or.inr ⟨by rfl, rfl⟩) hS2 ?_
        simp only [Act.put, List.getElem_toArray, List.getElem_cons_succ, List.getElem_cons_zero, List.setIfInBounds_toArray, List.set_cons_succ, List.set_cons_zero]
        refine wpAnyL_take (i := 29) (f0 := 33) (v := ?_) rfl (by decide +kernel) (by decide +kernel) (by decide +kernel) (by decide +kernel) (by decide +kernel) (fun _ _ _ h => h) (Or.inl ⟨by rfl, ?_⟩) hS2 ?_
        rotate_left
        · intro wS hS; go_simp; (try with_reducible rfl)
        simp only [Act.put, List.getElem_toArray, List.getElem_cons_succ, List.getElem_cons_zero, List.setIfInBounds_toArray, List.set_cons_succ, List.set_cons_zero]
        refine wpAnyL_take (i := 30) (f0 := 33) (v := ?_) rfl (by decide +kernel) (by decide +kernel) (by decide +kernel) (by decide +kernel) (by decide +kernel) (fun _ _ _ h => h) (Or.inl ⟨by rfl, ?_⟩) hS2 ?_
        rotate_left
        · intro wS hS; go_simp; (try with_reducible rfl)
        simp only [Act.put, List.getElem_toArray, List.getElem_cons_succ, List.getElem_cons_zero, List.setIfInBounds_toArray, List.set_cons_succ, List.set_cons_zero]
        refine wpAnyL_done (by decide +kernel) ?_ _
        refine NoPanic.normal ?_
        go_wp2
        go_ret
        exact ⟨ret_bool E9.out, hb2⟩
      | false =>
        try clear hc1
        try clear hc2
        refine wp_region_noPanic ?_
        refine wp_region_L (PS w.heap.size (w.heap.size + 1) p A m c) 31 hmx ?_
        have hdr := (Below.refl w1.heap.size w1).drew
        have hS2 : (PS w.heap.size (w.heap.size + 1) p A m c) w1.drew := hS1.below hdr
        have hb2 := bnext hb1 hdr
        clear hdr hS1 hb1
        generalize w1.drew = w2 at *
        obtain ⟨LF, hLF⟩ : ∃ K, Dg.leafI p.it = K := ⟨_, rfl⟩
        have HKZ := hide (show LF.size ≤ 1048576 by rw [← hLF]; exact leafI_size2 HZ.out)
        have HC := hide (show checkB root p.count p.idx LF p.path = R by rw [← HR.out, checkP_rest HKO.out HNO.out hg, hLF])
        have HLF := hide hLF
        clear hLF
        refine wpAnyL_take (i := 0) (f0 := 33) (v := ?_) rfl (by decide +kernel) (by decide +kernel) (by decide +kernel) (by decide +kernel) (by decide +kernel) (fun _ _ _ h => h) (Or.inl ⟨by rfl, ?_⟩) hS2 ?_
        rotate_left
        · intro wS hS; go_simp; (try with_reducible rfl)
        simp only [Act.put, List.getElem_toArray, List.getElem_cons_zero, List.setIfInBounds_toArray, List.set_cons_succ, List.set_cons_zero]
        refine wpAnyL_take (i := 1) (f0 := 33) (v := ?_) rfl (by decide +kernel) (by decide +kernel) (by decide +kernel) (by decide +kernel) (by decide +kernel) (fun _ _ _ h => h) (Or.inl ⟨by rfl, ?_⟩) hS2 ?_
        rotate_left
        · intro wS hS; obtain ⟨q0, q1, q2, q3, q4, q5, q6⟩ := iCells hS.r2; go_simp; (try with_reducible rfl)
        simp only [Act.put, List.getElem_toArray, List.getElem_cons_succ, List.getElem_cons_zero, List.setIfInBounds_toArray, List.set_cons_succ, List.set_cons_zero]
        refine wpAnyL_take (i := 2) (f0 := 33) (v := ?_) rfl (by decide +kernel) (by decide +kernel) (by decide +kernel) (by decide +kernel) (by decide +kernel) (fun _ _ _ h => h) (Or.inl ⟨by rfl, ?_⟩) hS2 ?_
        rotate_left
        · intro wS hS; go_simp; (try with_reducible rfl)
        simp only [Act.put, List.getElem_toArray, List.getElem_cons_succ, List.getElem_cons_zero, List.setIfInBounds_toArray, List.set_cons_succ, List.set_cons_zero]
        refine wpAnyL_take (i := 3) (f0 := 33) (v := ?_) rfl (by decide +kernel) (by decide +kernel) (by decide +kernel) (by decide +kernel) (by decide +kernel) (fun _ _ _ h => h) (Or.inl ⟨by rfl, ?_⟩) hS2 ?_
        rotate_left
        · intro wS hS; go_simp; (try with_reducible rfl)
        simp only [Act.put, List.getElem_toArray, List.getElem_cons_succ, List.getElem_cons_zero, List.setIfInBounds_toArray, List.set_cons_succ, List.set_cons_zero]
        refine wpAnyL_take (i := 4) (f0 := 33) (v := undef) rfl (by decide +kernel) (by decide +kernel) (by decide +kernel) (by decide +kernel) (by decide +kernel) (fun _ _ _ h => h) (Or.inr ⟨by rfl, rfl⟩) hS2 ?_
        simp only [Act.put, List.getElem_toArray, List.getElem_cons_succ, List.getElem_cons_zero, List.setIfInBounds_toArray, List.set_cons_succ, List.set_cons_zero]
        refine wpAnyL_take (i := 5) (f0 := 33) (v := undef) rfl (by decide +kernel) (by decide +kernel) (by decide +kernel) (by decide +kernel) (by decide +kernel) (fun _ _ _ h => h) (Or.inr ⟨by rfl, rfl⟩) hS2 ?_
        simp only [Act.put, List.getElem_toArray, List.getElem_cons_succ, List.getElem_cons_zero, List.setIfInBounds_toArray, List.set_cons_succ, List.set_cons_zero]
        refine wpAnyL_take (i := 6) (f0 := 33) (v := undef) rfl (by decide +kernel) (by decide +kernel) (by decide +kernel) (by decide +kernel) (by decide +kernel) (fun _ _ _ h => h) (Or.inr ⟨by rfl, rfl⟩) hS2 ?_
        simp only [Act.put, List.getElem_toArray, List.getElem_cons_succ, List.getElem_cons_zero, List.setIfInBounds_toArray, List.set_cons_succ, List.set_cons_zero]
        refine wpAnyL_take (i := 7) (f0 := 33) (v := ?_) rfl (by decide +kernel) (by decide +kernel) (by decide +kernel) (by decide +kernel) (by decide +kernel) (fun _ _ _ h => h) (Or.inl ⟨by rfl, ?_⟩) hS2 ?_
        rotate_left
        · intro wS hS; go_simp; (try with_reducible rfl)
        simp only [Act.put, List.getElem_toArray, List.getElem_cons_succ, List.getElem_cons_zero, List.setIfInBounds_toArray, List.set_cons_succ, List.set_cons_zero]
        refine wpAnyL_take (i := 8) (f0 := 33) (v := ?_) rfl (by decide +kernel) (by decide +kernel) (by decide +kernel) (by decide +kernel) (by decide +kernel) (fun _ _ _ h => h) (Or.inl ⟨by rfl, ?_⟩) hS2 ?_
        rotate_left
        · intro wS hS; go_simp; (try with_reducible rfl)
        simp only [Act.put, List.getElem_toArray, List.getElem_cons_succ, List.getElem_cons_zero, List.setIfInBounds_toArray, List.set_cons_succ, List.set_cons_zero]
        refine wpAnyL_take (i := 9) (f0 := 33) (v := ?_) rfl (by decide +kernel) (by decide +kernel) (by decide +kernel) (by decide +kernel) (by decide +kernel) (fun _ _ _ h => h) (Or.inl ⟨by rfl, ?_⟩) hS2 ?_
        rotate_left
        · intro wS hS; go_simp; (try with_reducible rfl)
        simp only [Act.put, List.getElem_toArray, List.getElem_cons_succ, List.getElem_cons_zero, List.setIfInBounds_toArray, List.set_cons_succ, List.set_cons_zero]
        refine wpAnyL_take (i := 10) (f0 := 33) (v := ?_) rfl (by decide +kernel) (by decide +kernel) (by decide +kernel) (by decide +kernel) (by decide +kernel) (fun _ _ _ h => h) (Or.inl ⟨by rfl, ?_⟩) hS2 ?_
        rotate_left
        · intro wS hS; obtain ⟨q0, q1, q2, q3, q4, q5, q6⟩ := iCells hS.r2; go_simp; (try with_reducible rfl)
        simp only [Act.put, List.getElem_toArray, List.getElem_cons_succ, List.getElem_cons_zero, List.setIfInBounds_toArray, List.set_cons_succ, List.set_cons_zero]
        refine wpAnyL_take (i := 11) (f0 := 33) (v := ?_) rfl (by decide +kernel) (by decide +kernel) (by decide +kernel) (by decide +kernel) (by decide +kernel) (fun _ _ _ h => h) (Or.inl ⟨by rfl, ?_⟩) hS2 ?_
        rotate_left
        · intro wS hS; go_simp; (try with_reducible rfl)
        simp only [Act.put, List.getElem_toArray, List.getElem_cons_succ, List.getElem_cons_zero, List.setIfInBounds_toArray, List.set_cons_succ, List.set_cons_zero]
        refine wpAnyL_take (i := 12) (f0 := 33) (v := ?_) rfl (by decide +kernel) (by decide +kernel) (by decide +kernel) (by decide +kernel) (by decide +kernel) (fun _ _ _ h => h) (Or.inl ⟨by rfl, ?_⟩) hS2 ?_
        rotate_left
        · intro wS hS; go_simp; (try with_reducible rfl)
        simp only [Act.put, List.getElem_toArray, List.getElem_cons_succ, List.getElem_cons_zero, List.setIfInBounds_toArray, List.set_cons_succ, List.set_cons_zero]
        refine wpAnyL_take (i := 13) (f0 := 33) (v := ?_) rfl (by decide +kernel) (by decide +kernel) (by decide +kernel) (by decide +kernel) (by decide +kernel) (fun _ _ _ h => h) (Or.inl ⟨by rfl, ?_⟩) hS2 ?_
        rotate_left
        · intro wS hS; go_simp; (try with_reducible rfl)
        simp only [Act.put, List.getElem_toArray, List.getElem_cons_succ, List.getElem_cons_zero, List.setIfInBounds_toArray, List.set_cons_succ, List.set_cons_zero]
        refine wpAnyL_take (i := 14) (f0 := 33) (v := ?_) rfl (by decide +kernel) (by decide +kernel) (by decide +kernel) (by decide +kernel) (by decide +kernel) (fun _ _ _ h => h) (Or.inl ⟨by rfl, ?_⟩) hS2 ?_
        rotate_left
        · intro wS hS; go_simp; (try with_reducible rfl)
        simp only [Act.put, List.getElem_toArray, List.getElem_cons_succ, List.getElem_cons_zero, List.setIfInBounds_toArray, List.set_cons_succ, List.set_cons_zero]
        refine wpAnyL_take (i := 15) (f0 := 33) (v := ?_) rfl (by decide +kernel) (by decide +kernel) (by decide +kernel) (by decide +kernel) (by decide +kernel) (fun _ _ _ h => h) (Or.inl ⟨by rfl, ?_⟩) hS2 ?_
        rotate_left
        · intro wS hS; obtain ⟨q0, q1, q2, q3, q4, q5, q6⟩ := iCells hS.r2; go_simp; (try with_reducible rfl)
        simp only [Act.put, List.getElem_toArray, List.getElem_cons_succ, List.getElem_cons_zero, List.setIfInBounds_toArray, List.set_cons_succ, List.set_cons_zero]
        refine wpAnyL_take (i := 16) (f0 := 33) (v := ?_) rfl (by decide +kernel) (by decide +kernel) (by decide +kernel) (by decide +kernel) (by decide +kernel) (fun _ _ _ h => h) (Or.inl ⟨by rfl, ?_⟩) hS2 ?_
        rotate_left
        · intro wS hS; go_simp; (try with_reducible rfl)
        simp only [Act.put, List.getElem_toArray, List.getElem_cons_succ, List.getElem_cons_zero, List.setIfInBounds_toArray, List.set_cons_succ, List.set_cons_zero]
        refine wpAnyL_take (i := 17) (f0 := 33) (v := ?_) rfl (by decide +kernel) (by decide +kernel) (by decide +kernel) (by decide +kernel) (by decide +kernel) (fun _ _ _ h => h) (Or.inl ⟨by rfl, ?_⟩) hS2 ?_
        rotate_left
        · intro wS hS; go_simp; (try with_reducible rfl)
        simp only [Act.put, List.getElem_toArray, List.getElem_cons_succ, List.getElem_cons_zero, List.setIfInBounds_toArray, List.set_cons_succ, List.set_cons_zero]
        refine wpAnyL_take (i := 18) (f0 := 33) (v := ?_) rfl (by decide +kernel) (by decide +kernel) (by decide +kernel) (by decide +kernel) (by decide +kernel) (fun _ _ _ h => h) (Or.inl ⟨by rfl, ?_⟩) hS2 ?_
        rotate_left
        · intro wS hS; go_simp; (try with_reducible rfl)
        simp only [Act.put, List.getElem_toArray, List.getElem_cons_succ, List.getElem_cons_zero, List.setIfInBounds_toArray, List.set_cons_succ, List.set_cons_zero]
        refine wpAnyL_take (i := 19) (f0 := 33) (v := ?_) rfl (by decide +kernel) (by decide +kernel) (by decide +kernel) (by decide +kernel) (by decide +kernel) (fun _ _ _ h => h) (Or.inl ⟨by rfl, ?_⟩) hS2 ?_
        rotate_left
        · intro wS hS; go_simp; (try with_reducible rfl)
        simp only [Act.put, List.getElem_toArray, List.getElem_cons_succ, List.getElem_cons_zero, List.setIfInBounds_toArray, List.set_cons_succ, List.set_cons_zero]
        refine wpAnyL_take (i := 20) (f0 := 33) (v := ?_) rfl (by decide +kernel) (by decide +kernel) (by decide +kernel) (by decide +kernel) (by decide +kernel) (fun _ _ _ h => h) (Or.inl ⟨by rfl, ?_⟩) hS2 ?_
        rotate_left
        · intro wS hS; go_simp; (try with_reducible rfl)
        simp only [Act.put, List.getElem_toArray, List.getElem_cons_succ, List.getElem_cons_zero, List.setIfInBounds_toArray, List.set_cons_succ, List.set_cons_zero]
        refine wpAnyL_take (i := 21) (f0 := 33) (v := ?_) rfl (by decide +kernel) (by decide +kernel) (by decide +kernel) (by decide +kernel) (by decide +kernel) (fun _ _ _ h => h) (Or.inl ⟨by rfl, ?_⟩) hS2 ?_
        rotate_left
        · intro wS hS; obtain ⟨q0, q1, q2, q3, q4, q5, q6, q7, q8, q9⟩ := jCells10 hS.r1; go_simp; (try with_reducible rfl)
        simp only [Act.put, List.getElem_toArray, List.getElem_cons_succ, List.getElem_cons_zero, List.setIfInBounds_toArray, List.set_cons_succ, List.set_cons_zero]
        refine wpAnyL_take (i := 22) (f0 := 33) (v := ?_) rfl (by decide +kernel) (by decide +kernel) (by decide +kernel) (by decide +kernel) (by decide +kernel) (fun _ _ _ h => h) (Or.inl ⟨by rfl, ?_⟩) hS2 ?_
        rotate_left
        · intro wS hS; go_simp; (try with_reducible rfl)
        simp only [Act.put, List.getElem_toArray, List.getElem_cons_succ, List.getElem_cons_zero, List.setIfInBounds_toArray, List.set_cons_succ, List.set_cons_zero]
        refine wpAnyL_take (i := 23) (f0 := 33) (v := ?_) rfl (by decide +kernel) (by decide +kernel) (by decide +kernel) (by decide +kernel) (by decide +kernel) (fun _ _ _ h => h) (Or.inl ⟨by rfl, ?_⟩) hS2 ?_
        rotate_left
        · intro wS hS; obtain ⟨q0, q1, q2, q3, q4, q5, q6, q7, q8, q9⟩ := jCells10 hS.r1; go_simp; (try with_reducible rfl)
        simp only [Act.put, List.getElem_toArray, List.getElem_cons_succ, List.getElem_cons_zero, List.setIfInBounds_toArray, List.set_cons_succ, List.set_cons_zero]
        refine wpAnyL_take (i := 24) (f0 := 33) (v := ?_) rfl (by decide +kernel) (by decide +kernel) (by decide +kernel) (by decide +kernel) (by decide +kernel) (fun _ _ _ h => h) (Or.inl ⟨by rfl, ?_⟩) hS2 ?_
        rotate_left
        · intro wS hS; obtain ⟨q0, q1, q2, q3, q4, q5, q6⟩ := iCells hS.r2; go_simp; (try with_reducible rfl)
        simp only [Act.put, List.getElem_toArray, List.getElem_cons_succ, List.getElem_cons_zero, List.setIfInBounds_toArray, List.set_cons_succ, List.set_cons_zero]
        refine wpAnyL_take (i := 26) (f0 := 33) (v := ?_) rfl (by decide +kernel) (by decide +kernel) (by decide +kernel) (by decide +kernel) (by decide +kernel) (fun _ _ _ h => h) (Or.inl ⟨by rfl, ?_⟩) hS2 ?_
        rotate_left
        · intro wS hS; go_simp; (try with_reducible rfl)
        simp only [Act.put, List.getElem_toArray, List.getElem_cons_succ, List.getElem_cons_zero, List.setIfInBounds_toArray, List.set_cons_succ, List.set_cons_zero]
        refine wpAnyL_take (i := 27) (f0 := 33) (v := ?_) rfl (by decide +kernel) (by decide +kernel) (by decide +kernel) (by decide +kernel) (by decide +kernel) (fun _ _ _ h => h) (Or.inl ⟨by rfl, ?_⟩) hS2 ?_
        rotate_left
        · intro wS hS; obtain ⟨q0, q1, q2, q3, q4, q5, q6, q7, q8, q9⟩ := jCells10 hS.r1; go_simp; (try with_reducible rfl)
        simp only [Act.put, List.getElem_toArray, List.getElem_cons_succ, List.getElem_cons_zero, List.setIfInBounds_toArray, List.set_cons_succ, List.set_cons_zero]
        refine wpAnyL_one (i := 25) (by decide +kernel) (by rfl) (fun K hK => ?_)
        rw [if_pos (by rfl)]
        go_simp
        refine (rleaf_g p.it false (fun s hs => Nat.le_trans (HZ.out s hs) (by decide)) w2 LF HLF.out).mono ?_
        rintro e w3 ⟨rfl, hx3⟩
        have hS3 : (PS w.heap.size (w.heap.size + 1) p A m c) w3 := hS2.below hx3
        have hb3 := bnext hb2 hx3
        refine hK.out _ _ (Or.inr hS3) ?_
        clear hK K hS2 hb2 hx3
        try simp only [Act.put, List.getElem_toArray, List.getElem_cons_succ, List.getElem_cons_zero, List.setIfInBounds_toArray, List.set_cons_succ, List.set_cons_zero]
        refine wpAnyL_one (i := 28) (by decide +kernel) (by rfl) (fun K hK => ?_)
        rw [if_pos (by rfl)]
        go_simp
        refine (rcheck_of root p.count p.idx LF A c m p.path R HC.out w3 HM.out hm2 hmc HPS.out (by have := HKZ.out; omega) hS3.path).mono ?_
        rintro e w4 ⟨rfl, hx4⟩
        have hS4 : (PS w.heap.size (w.heap.size + 1) p A m c) w4 := hS3.below hx4
        have hb4 := bnext hb3 hx4
        refine hK.out _ _ (Or.inr hS4) ?_
        clear hK K hS3 hb3 hx4
        try simp only [Act.put, List.getElem_toArray, List.getElem_cons_succ, List.getElem_cons_zero, List.setIfInBounds_toArray, List.set_cons_succ, List.set_cons_zero]
        refine wpAnyL_take (i := 29) (f0 := 33) (v := ?_) rfl (by decide +kernel) (by decide +kernel) (by decide +kernel) (by decide +kernel) (by decide +kernel) (fun _ _ _ h => h) (Or.inl ⟨by rfl, ?_⟩) hS4 ?_
        rotate_left
        · intro wS hS; go_simp; (try with_reducible rfl)
        simp only [Act.put, List.getElem_toArray, List.getElem_cons_succ, List.getElem_cons_zero, List.setIfInBounds_toArray, List.set_cons_succ, List.set_cons_zero]
        refine wpAnyL_take (i := 30) (f0 := 33) (v := ?_) rfl (by decide +kernel) (by decide +kernel) (by decide +kernel) (by decide +kernel) (by decide +kernel) (fun _ _ _ h => h) (Or.inl ⟨by rfl, ?_⟩) hS4 ?_
        rotate_left
        · intro wS hS; go_simp; (try with_reducible rfl)
        simp only [Act.put, List.getElem_toArray, List.getElem_cons_succ, List.getElem_cons_zero, List.setIfInBounds_toArray, List.set_cons_succ, List.set_cons_zero]
        refine wpAnyL_done (by decide +kernel) ?_ _
        refine NoPanic.normal ?_
        go_wp2
        go_ret
        exact ⟨rfl, hb4⟩
  · have kb2 : (p.it.kind == 2) = false := beq_eq_false_iff_ne.2 k2
    clear k2
    by_cases k1 : p.it.kind = 1
    · have kb1 : (p.it.kind == 1) = true := beq_iff_eq.2 k1
      clear k1
      have HKO := hide (show kindOk p.it = true by unfold kindOk; rw [kb2, kb1, Bool.or_true])
      cases hN : decide (p.it.number = Dg.nil8) with
      | false =>
        rw [hN] at hne
        have E9 := hide (show false = R by rw [← HR.out]; exact (checkP_num hN).symm)
        clear hN
        try clear hc1
        try clear hc2
        refine wp_region_noPanic ?_
        refine wp_region_L (PS w.heap.size (w.heap.size + 1) p A m c) 31 hmx ?_
        have hdr := (Below.refl w1.heap.size w1).drew
        have hS2 : (PS w.heap.size (w.heap.size + 1) p A m c) w1.drew := hS1.below hdr
        have hb2 := bnext hb1 hdr
        clear hdr hS1 hb1
        generalize w1.drew = w2 at *
        refine wpAnyL_take (i := 0) (f0 := 33) (v := ?_) rfl (by decide +kernel) (by decide +kernel) (by decide +kernel) (by decide +kernel) (by decide +kernel) (fun _ _ _ h => h) (Or.inl ⟨by rfl, ?_⟩) hS2 ?_
        rotate_left
        · intro wS hS; go_simp; (try with_reducible rfl)
        simp only [Act.put, List.getElem_toArray, List.getElem_cons_zero, List.setIfInBounds_toArray, List.set_cons_succ, List.set_cons_zero]
        refine wpAnyL_take (i := 1) (f0 := 33) (v := ?_) rfl (by decide +kernel) (by decide +kernel) (by decide +kernel) (by decide +kernel) (by decide +kernel) (fun _ _ _ h => h) (Or.inl ⟨by rfl, ?_⟩) hS2 ?_
        rotate_left
        · intro wS hS; obtain ⟨q0, q1, q2, q3, q4, q5, q6⟩ := iCells hS.r2; go_simp; (try with_reducible rfl)
        simp only [Act.put, List.getElem_toArray, List.getElem_cons_succ, List.getElem_cons_zero, List.setIfInBounds_toArray, List.set_cons_succ, List.set_cons_zero]
        refine wpAnyL_take (i := 2) (f0 := 33) (v := ?_) rfl (by decide +kernel) (by decide +kernel) (by decide +kernel) (by decide +kernel) (by decide +kernel) (fun _ _ _ h => h) (Or.inl ⟨by rfl, ?_⟩) hS2 ?_
        rotate_left
        · intro wS hS; go_simp; (try with_reducible rfl)
        simp only [Act.put, List.getElem_toArray, List.getElem_cons_succ, List.getElem_cons_zero, List.setIfInBounds_toArray, List.set_cons_succ, List.set_cons_zero]
        refine wpAnyL_take (i := 3) (f0 := 33) (v := ?_) rfl (by decide +kernel) (by decide +kernel) (by decide +kernel) (by decide +kernel) (by decide +kernel) (fun _ _ _ h => h) (Or.inl ⟨by rfl, ?_⟩) hS2 ?_
        rotate_left
        · intro wS hS; go_simp; (try with_reducible rfl)
        simp only [Act.put, List.getElem_toArray, List.getElem_cons_succ, List.getElem_cons_zero, List.setIfInBounds_toArray, List.set_cons_succ, List.set_cons_zero]
        refine wpAnyL_take (i := 4) (f0 := 33) (v := ?_) rfl (by decide +kernel) (by decide +kernel) (by decide +kernel) (by decide +kernel) (by decide +kernel) (fun _ _ _ h => h) (Or.inl ⟨by rfl, ?_⟩) hS2 ?_
        rotate_left
        · intro wS hS; go_simp; (try with_reducible rfl)
        simp only [Act.put, List.getElem_toArray, List.getElem_cons_succ, List.getElem_cons_zero, List.setIfInBounds_toArray, List.set_cons_succ, List.set_cons_zero]
        refine wpAnyL_take (i := 5) (f0 := 33) (v := ?_) rfl (by decide +kernel) (by decide +kernel) (by decide +kernel) (by decide +kernel) (by decide +kernel) (fun _ _ _ h => h) (Or.inl ⟨by rfl, ?_⟩) hS2 ?_
        rotate_left
        · intro wS hS; obtain ⟨q0, q1, q2, q3, q4, q5, q6⟩ := iCells hS.r2; go_simp; (try with_reducible rfl)
        simp only [Act.put, List.getElem_toArray, List.getElem_cons_succ, List.getElem_cons_zero, List.setIfInBounds_toArray, List.set_cons_succ, List.set_cons_zero]
        refine wpAnyL_take (i := 6) (f0 := 33) (v := ?_) rfl (by decide +kernel) (by decide +kernel) (by decide +kernel) (by decide +kernel) (by decide +kernel) (fun _ _ _ h => h) (Or.inl ⟨by rfl, ?_⟩) hS2 ?_
        rotate_left
        · intro wS hS; go_simp; (try with_reducible rfl)
        simp only [Act.put, List.getElem_toArray, List.getElem_cons_succ, List.getElem_cons_zero, List.setIfInBounds_toArray, List.set_cons_succ, List.set_cons_zero]
        refine wpAnyL_take (i := 7) (f0 := 33) (v := ?_) rfl (by decide +kernel) (by decide +kernel) (by decide +kernel) (by decide +kernel) (by decide +kernel) (fun _ _ _ h => h) (Or.inl ⟨by rfl, ?_⟩) hS2 ?_
        rotate_left
        · intro wS hS; go_simp; (try with_reducible rfl)
        simp only [Act.put, List.getElem_toArray, List.getElem_cons_succ, List.getElem_cons_zero, List.setIfInBounds_toArray, List.set_cons_succ, List.set_cons_zero]
        refine wpAnyL_take (i := 8) (f0 := 33) (v := ?_) rfl (by decide +kernel) (by decide +kernel) (by decide +kernel) (by decide +kernel) (by decide +kernel) (fun _ _ _ h => h) (Or.inl ⟨by rfl, ?_⟩) hS2 ?_
        rotate_left
        · intro wS hS; go_simp; (try with_reducible rfl)
        simp only [Act.put, List.getElem_toArray, List.getElem_cons_succ, List.getElem_cons_zero, List.setIfInBounds_toArray, List.set_cons_succ, List.set_cons_zero]
        refine wpAnyL_take (i := 9) (f0 := 33) (v := ?_) rfl (by decide +kernel) (by decide +kernel) (by decide +kernel) (by decide +kernel) (by decide +kernel) (fun _ _ _ h => h) (Or.inl ⟨by rfl, ?_⟩) hS2 ?_
        rotate_left
        · intro wS hS; go_simp; (try with_reducible rfl)
        simp only [Act.put, List.getElem_toArray, List.getElem_cons_succ, List.getElem_cons_zero, List.setIfInBounds_toArray, List.set_cons_succ, List.set_cons_zero]
        refine wpAnyL_take (i := 10) (f0 := 33) (v := ?_) rfl (by decide +kernel) (by decide +kernel) (by decide +kernel) (by decide +kernel) (by decide +kernel) (fun _ _ _ h => h) (Or.inl ⟨by rfl, ?_⟩) hS2 ?_
        rotate_left
        · intro wS hS; obtain ⟨q0, q1, q2, q3, q4, q5, q6⟩ := iCells hS.r2; go_simp; (try with_reducible rfl)
        simp only [Act.put, List.getElem_toArray, List.getElem_cons_succ, List.getElem_cons_zero, List.setIfInBounds_toArray, List.set_cons_succ, List.set_cons_zero]
        refine wpAnyL_take (i := 11) (f0 := 33) (v := ?_) rfl (by decide +kernel) (by decide +kernel) (by decide +kernel) (by decide +kernel) (by decide +kernel) (fun _ _ _ h => h) (Or.inl ⟨by rfl, ?_⟩) hS2 ?_
        rotate_left
        · intro wS hS; go_simp; (try with_reducible rfl)
        simp only [Act.put, List.getElem_toArray, List.getElem_cons_succ, List.getElem_cons_zero, List.setIfInBounds_toArray, List.set_cons_succ, List.set_cons_zero]
        refine wpAnyL_take (i := 12) (f0 := 33) (v := ?_) rfl (by decide +kernel) (by decide +kernel) (by decide +kernel) (by decide +kernel) (by decide +kernel) (fun _ _ _ h => h) (Or.inl ⟨by rfl, ?_⟩) hS2 ?_
        rotate_left
        · intro wS hS; go_simp; (try with_reducible rfl)
        simp only [Act.put, List.getElem_toArray, List.getElem_cons_succ, List.getElem_cons_zero, List.setIfInBounds_toArray, List.set_cons_succ, List.set_cons_zero]
        refine wpAnyL_take (i := 13) (f0 := 33) (v := ?_) rfl (by decide +kernel) (by decide +kernel) (by decide +kernel) (by decide +kernel) (by decide +kernel) (fun _ _ _ h => h) (Or.inl ⟨by rfl, ?_⟩) hS2 ?_
        rotate_left
        · intro wS hS; go_simp; (try with_reducible rfl)
        simp only [Act.put, List.getElem_toArray, List.getElem_cons_succ, List.getElem_cons_zero, List.setIfInBounds_toArray, List.set_cons_succ, List.set_cons_zero]
        refine wpAnyL_take (i := 14) (f0 := 33) (v := undef) rfl (by decide +kernel) (by decide +kernel) (by decide +kernel) (by decide +kernel) (by decide +kernel) (fun _ _ _ h => h) (Or.inr ⟨by rfl, rfl⟩) hS2 ?_
        simp only [Act.put, List.getElem_toArray, List.getElem_cons_succ, List.getElem_cons_zero, List.setIfInBounds_toArray, List.set_cons_succ, List.set_cons_zero]
        refine wpAnyL_take (i := 15) (f0 := 33) (v := undef) rfl (by decide +kernel) (by decide +kernel) (by decide +kernel) (by decide +kernel) (by decide +kernel) (fun _ _ _ h => h) (Or.inr ⟨by rfl, rfl⟩) hS2 ?_
        simp only [Act.put, List.getElem_toArray, List.getElem_cons_succ, List.getElem_cons_zero, List.setIfInBounds_toArray, List.set_cons_succ, List.set_cons_zero]
        refine wpAnyL_take (i := 16) (f0 := 33) (v := undef) rfl (by decide +kernel) (by decide +kernel) (by decide +kernel) (by decide +kernel) (by decide +kernel) (fun _ _ _ h => h) (Or.inr ⟨by rfl, rfl⟩) hS2 ?_
        simp only [Act.put, List.getElem_toArray, List.getElem_cons_succ, List.getElem_cons_zero, List.setIfInBounds_toArray, List.set_cons_succ, List.set_cons_zero]
        refine wpAnyL_take (i := 17) (f0 := 33) (v := ?_) rfl (by decide +kernel) (by decide +kernel) (by decide +kernel) (by decide +kernel) (by decide +kernel) (fun _ _ _ h => h) (Or.inl ⟨by rfl, ?_⟩) hS2 ?_
        rotate_left
        · intro wS hS; go_simp; (try with_reducible rfl)
        simp only [Act.put, List.getElem_toArray, List.getElem_cons_succ, List.getElem_cons_zero, List.setIfInBounds_toArray, List.set_cons_succ, List.set_cons_zero]
        refine wpAnyL_take (i := 18) (f0 := 33) (v := ?_) rfl (by decide +kernel) (by decide +kernel) (by decide +kernel) (by decide +kernel) (by decide +kernel) (fun _ _ _ h => h) (Or.inl ⟨by rfl, ?_⟩) hS2 ?_
        rotate_left
        · intro wS hS; go_simp; (try with_reducible rfl)
        simp only [Act.put, List.getElem_toArray, List.getElem_cons_succ, List.getElem_cons_zero, List.setIfInBounds_toArray, List.set_cons_succ, List.set_cons_zero]
        refine wpAnyL_take (i := 19) (f0 := 33) (v := undef) rfl (by decide +kernel) (by decide +kernel) (by decide +kernel) (by decide +kernel) (by decide +kernel) (fun _ _ _ h => h) (Or.inr ⟨by rfl, rfl⟩) hS2 ?_
        simp only [Act.put, List.getElem_toArray, List.getElem_cons_succ, List.getElem_cons_zero, List.setIfInBounds_toArray, List.set_cons_succ, List.set_cons_zero]
        refine wpAnyL_take (i := 20) (f0 := 33) (v := undef) rfl (by decide +kernel) (by decide +kernel) (by decide +kernel) (by decide +kernel) (by decide +kernel) (fun _ _ _ h => h) (Or.inr ⟨by rfl, rfl⟩) hS2 ?_
        simp only [Act.put, List.getElem_toArray, List.getElem_cons_succ, List.getElem_cons_zero, List.setIfInBounds_toArray, List.set_cons_succ, List.set_cons_zero]
        refine wpAnyL_take (i := 21) (f0 := 33) (v := undef) rfl (by decide +kernel) (by decide +kernel) (by decide +kernel) (by decide +kernel) (by decide +kernel) (fun _ _ _ h => h) (Or.inr ⟨by rfl, rfl⟩) hS2 ?_
        simp only [Act.put, List.getElem_toArray, List.getElem_cons_succ, List.getElem_cons_zero, List.setIfInBounds_toArray, List.set_cons_succ, List.set_cons_zero]
        refine wpAnyL_take (i := 22) (f0 := 33) (v := undef) rfl (by decide +kernel) (by decide +kernel) (by decide +kernel) (by decide +kernel) (by decide +kernel) (fun _ _ _ h => h) (Or.inr ⟨by rfl, rfl⟩) hS2 ?_
        simp only [Act.put, List.getElem_toArray, List.getElem_cons_succ, List.getElem_cons_zero, List.setIfInBounds_toArray, List.set_cons_succ, List.set_cons_zero]
        refine wpAnyL_take (i := 23) (f0 := 33) (v := undef) rfl (by decide +kernel) (by decide +kernel) (by decide +kernel) (by decide +kernel) (by decide +kernel) (fun _ _ _ h => h) (Or.inr ⟨by rfl, rfl⟩) hS2 ?_
        simp only [Act.put, List.getElem_toArray, List.getElem_cons_succ, List.getElem_cons_zero, List.setIfInBounds_toArray, List.set_cons_succ, List.set_cons_zero]
        refine wpAnyL_take (i := 24) (f0 := 33) (v := undef) rfl (by decide +kernel) (by decide +kernel) (by decide +kernel) (by decide +kernel) (by decide +kernel) (fun _ _ _ h => h) (Or.inr ⟨by rfl, rfl⟩) hS2 ?_
        simp only [Act.put, List.getElem_toArray, List.getElem_cons_succ, List.getElem_cons_zero, List.setIfInBounds_toArray, List.set_cons_succ, List.set_cons_zero]
        refine wpAnyL_take (i := 25) (f0 := 33) (v := undef) rfl (by decide +kernel) (by decide +kernel) (by decide +kernel) (by decide +kernel) (by decide +kernel) (fun _ _ _ h => h) (Or.inr ⟨by rfl, rfl⟩) hS2 ?_
        simp only [Act.put, List.getElem_toArray, List.getElem_cons_succ, List.getElem_cons_zero, List.setIfInBounds_toArray, List.set_cons_succ, List.set_cons_zero]
        refine wpAnyL_take (i := 26) (f0 := 33) (v := undef) rfl (by decide +kernel) (by decide +kernel) (by decide +kernel) (by decide +kernel) (by decide +kernel) (fun _ _ _ h => h) (Or.inr ⟨by rfl, rfl⟩) hS2 ?_
        simp only [Act.put, List.getElem_toArray, List.getElem_cons_succ, List.getElem_cons_zero, List.setIfInBounds_toArray, List.set_cons_succ, List.set_cons_zero]
        refine wpAnyL_take (i := 27) (f0 := 33) (v := undef) rfl (by decide +kernel) (by decide +kernel) (by decide +kernel) (by decide +kernel) (by decide +kernel) (fun _ _ _ h => h) (Or.inr ⟨by rfl, rfl⟩) hS2 ?_
        simp only [Act.put, List.getElem_toArray, List.getElem_cons_succ, List.getElem_cons_zero, List.setIfInBounds_toArray, List.set_cons_succ, List.set_cons_zero]
        refine wpAnyL_take (i := 28) (f0 := 33) (v := undef) rfl (by decide +kernel) (by decide +kernel) (by decide +kernel) (by decide +kernel) (by decide +kernel) (fun _ _ _ h => h) (Or.inr ⟨by rfl, rfl⟩) hS2 ?_
        simp only [Act.put, List.getElem_toArray, List.getElem_cons_succ, List.getElem_cons_zero, List.setIfInBounds_toArray, List.set_cons_succ, List.set_cons_zero]
        refine wpAnyL_take (i := 29) (f0 := 33) (v := ?_) rfl (by decide +kernel) (by decide +kernel) (by decide +kernel) (by decide +kernel) (by decide +kernel) (fun _ _ _ h => h) (Or.inl ⟨by rfl, ?_⟩) hS2 ?_
        rotate_left
        · intro wS hS; go_simp; (try with_reducible rfl)
        simp only [Act.put, List.getElem_toArray, List.getElem_cons_succ, List.getElem_cons_zero, List.setIfInBounds_toArray, List.set_cons_succ, List.set_cons_zero]
        refine wpAnyL_take (i := 30) (f0 := 33) (v := ?_) rfl (by decide +kernel) (by decide +kernel) (by decide +kernel) (by decide +kernel) (by decide +kernel) (fun _ _ _ h => h) (Or.inl ⟨by rfl, ?_⟩) hS2 ?_
        rotate_left
        · intro wS hS; go_simp; (try with_reducible rfl)
        simp only [Act.put, List.getElem_toArray, List.getElem_cons_succ, List.getElem_cons_zero, List.setIfInBounds_toArray, List.set_cons_succ, List.set_cons_zero]
        refine wpAnyL_done (by decide +kernel) ?_ _
        refine NoPanic.normal ?_
        go_wp2
        go_ret
        exact ⟨ret_bool E9.out, hb2⟩
      | true =>
        rw [hN] at hne
        have HNO := hide hN
        clear hN
        cases hg : p.it.gone with
        | true =>
          have E9 := hide (show false = R by rw [← HR.out]; exact (checkP_gone hg).symm)
          try clear hc1
          try clear hc2
          refine wp_region_noPanic ?_
          refine wp_region_L (PS w.heap.size (w.heap.size + 1) p A m c) 31 hmx ?_
          have hdr := (Below.refl w1.heap.size w1).drew
          have hS2 : (PS w.heap.size (w.heap.size + 1) p A m c) w1.drew := hS1.below hdr
          have hb2 := bnext hb1 hdr
          clear hdr hS1 hb1
          generalize w1.drew = w2 at *
          refine wpAnyL_take (i := 0) (f0 := 33) (v := ?_) rfl (by decide +kernel) (by decide +kernel) (by decide +kernel) (by decide +kernel) (by decide +kernel) (fun _ _ _ h => h) (Or.inl ⟨by rfl, ?_⟩) hS2 ?_
          rotate_left
          · intro wS hS; go_simp; (try with_reducible rfl)
          simp only [Act.put, List.getElem_toArray, List.getElem_cons_zero, List.setIfInBounds_toArray, List.set_cons_succ, List.set_cons_zero]
          refine wpAnyL_take (i := 1) (f0 := 33) (v := ?_) rfl (by decide +kernel) (by decide +kernel) (by decide +kernel) (by decide +kernel) (by decide +kernel) (fun _ _ _ h => h) (Or.inl ⟨by rfl, ?_⟩) hS2 ?_
          rotate_left
          · intro wS hS; obtain ⟨q0, q1, q2, q3, q4, q5, q6⟩ := iCells hS.r2; go_simp; (try with_reducible rfl)
          simp only [Act.put, List.getElem_toArray, List.getElem_cons_succ, List.getElem_cons_zero, List.setIfInBounds_toArray, List.set_cons_succ, List.set_cons_zero]
          refine wpAnyL_take (i := 2) (f0 := 33) (v := ?_) rfl (by decide +kernel) (by decide +kernel) (by decide +kernel) (by decide +kernel) (by decide +kernel) (fun _ _ _ h => h) (Or.inl ⟨by rfl, ?_⟩) hS2 ?_
          rotate_left
          · intro wS hS; go_simp; (try with_reducible rfl)
          simp only [Act.put, List.getElem_toArray, List.getElem_cons_succ, List.getElem_cons_zero, List.setIfInBounds_toArray, List.set_cons_succ, List.set_cons_zero]
          refine wpAnyL_take (i := 3) (f0 := 33) (v := ?_) rfl (by decide +kernel) (by decide +kernel) (by decide +kernel) (by decide +kernel) (by decide +kernel) (fun _ _ _ h => h) (Or.inl ⟨by rfl, ?_⟩) hS2 ?_
          rotate_left
          · intro wS hS; go_simp; (try with_reducible rfl)
          simp only [Act.put, List.getElem_toArray, List.getElem_cons_succ, List.getElem_cons_zero, List.setIfInBounds_toArray, List.set_cons_succ, List.set_cons_zero]
          refine wpAnyL_take (i := 4) (f0 := 33) (v := ?_) rfl (by decide +kernel) (by decide +kernel) (by decide +kernel) (by decide +kernel) (by decide +kernel) (fun _ _ _ h => h) (Or.inl ⟨by rfl, ?_⟩) hS2 ?_
          rotate_left
          · intro wS hS; go_simp; (try with_reducible rfl)
          simp only [Act.put, List.getElem_toArray, List.getElem_cons_succ, List.getElem_cons_zero, List.setIfInBounds_toArray, List.set_cons_succ, List.set_cons_zero]
          refine wpAnyL_take (i := 5) (f0 := 33) (v := ?_) rfl (by decide +kernel) (by decide +kernel) (by decide +kernel) (by decide +kernel) (by decide +kernel) (fun _ _ _ h => h) (Or.inl ⟨by rfl, ?_⟩) hS2 ?_
          rotate_left
          · intro wS hS; obtain ⟨q0, q1, q2, q3, q4, q5, q6⟩ := iCells hS.r2; go_simp; (try with_reducible rfl)
          simp only [Act.put, List.getElem_toArray, List.getElem_cons_succ, List.getElem_cons_zero, List.setIfInBounds_toArray, List.set_cons_succ, List.set_cons_zero]
          refine wpAnyL_take (i := 6) (f0 := 33) (v := ?_) rfl (by decide +kernel) (by decide +kernel) (by decide +kernel) (by decide +kernel) (by decide +kernel) (fun _ _ _ h => h) (Or.inl ⟨by rfl, ?_⟩) hS2 ?_
          rotate_left
          · intro wS hS; go_simp; (try with_reducible rfl)
          simp only [Act.put, List.getElem_toArray, List.getElem_cons_succ, List.getElem_cons_zero, List.setIfInBounds_toArray, List.set_cons_succ, List.set_cons_zero]
          refine wpAnyL_take (i := 7) (f0 := 33) (v := ?_) rfl (by decide +kernel) (by decide +kernel) (by decide +kernel) (by decide +kernel) (by decide +kernel) (fun _ _ _ h => h) (Or.inl ⟨by rfl, ?_⟩) hS2 ?_
          rotate_left
          · intro wS hS; go_simp; (try with_reducible rfl)
          simp only [Act.put, List.getElem_toArray, List.getElem_cons_succ, List.getElem_cons_zero, List.setIfInBounds_toArray, List.set_cons_succ, List.set_cons_zero]
          refine wpAnyL_take (i := 8) (f0 := 33) (v := ?_) rfl (by decide +kernel) (by decide +kernel) (by decide +kernel) (by decide +kernel) (by decide +kernel) (fun _ _ _ h => h) (Or.inl ⟨by rfl, ?_⟩) hS2 ?_
          rotate_left
          · intro wS hS; go_simp; (try with_reducible rfl)
          simp only [Act.put, List.getElem_toArray, List.getElem_cons_succ, List.getElem_cons_zero, List.setIfInBounds_toArray, List.set_cons_succ, List.set_cons_zero]
          refine wpAnyL_take (i := 9) (f0 := 33) (v := ?_) rfl (by decide +kernel) (by decide +kernel) (by decide +kernel) (by decide +kernel) (by decide +kernel) (fun _ _ _ h => h) (Or.inl ⟨by rfl, ?_⟩) hS2 ?_
          rotate_left
          · intro wS hS; go_simp; (try with_reducible rfl)
          simp only [Act.put, List.getElem_toArray, List.getElem_cons_succ, List.getElem_cons_zero, List.setIfInBounds_toArray, List.set_cons_succ, List.set_cons_zero]
          refine wpAnyL_take (i := 10) (f0 := 33) (v := ?_) rfl (by decide +kernel) (by decide +kernel) (by decide +kernel) (by decide +kernel) (by decide +kernel) (fun _ _ _ h => h) (Or.inl ⟨by rfl, ?_⟩) hS2 ?_
          rotate_left
          · intro wS hS; obtain ⟨q0, q1, q2, q3, q4, q5, q6⟩ := iCells hS.r2; go_simp; (try with_reducible rfl)
          simp only [Act.put, List.getElem_toArray, List.getElem_cons_succ, List.getElem_cons_zero, List.setIfInBounds_toArray, List.set_cons_succ, List.set_cons_zero]
          refine wpAnyL_take (i := 11) (f0 := 33) (v := ?_) rfl (by decide +kernel) (by decide +kernel) (by decide +kernel) (by decide +kernel) (by decide +kernel) (fun _ _ _ h => h) (Or.inl ⟨by rfl, ?_⟩) hS2 ?_
          rotate_left
          · intro wS hS; go_simp; (try with_reducible rfl)
          simp only [Act.put, List.getElem_toArray, List.getElem_cons_succ, List.getElem_cons_zero, List.setIfInBounds_toArray, List.set_cons_succ, List.set_cons_zero]
          refine wpAnyL_take (i := 12) (f0 := 33) (v := ?_) rfl (by decide +kernel) (by decide +kernel) (by decide +kernel) (by decide +kernel) (by decide +kernel) (fun _ _ _ h => h) (Or.inl ⟨by rfl, ?_⟩) hS2 ?_
          rotate_left
          · intro wS hS; go_simp; (try with_reducible rfl)
          simp only [Act.put, List.getElem_toArray, List.getElem_cons_succ, List.getElem_cons_zero, List.setIfInBounds_toArray, List.set_cons_succ, List.set_cons_zero]
          refine wpAnyL_take (i := 13) (f0 := 33) (v := ?_) rfl (by decide +kernel) (by decide +kernel) (by decide +kernel) (by decide +kernel) (by decide +kernel) (fun _ _ _ h => h) (Or.inl ⟨by rfl, ?_⟩) hS2 ?_
          rotate_left
          · intro wS hS; go_simp; (try with_reducible rfl)
          simp only [Act.put, List.getElem_toArray, List.getElem_cons_succ, List.getElem_cons_zero, List.setIfInBounds_toArray, List.set_cons_succ, List.set_cons_zero]
          refine wpAnyL_take (i := 14) (f0 := 33) (v := ?_) rfl (by decide +kernel) (by decide +kernel) (by decide +kernel) (by decide +kernel) (by decide +kernel) (fun _ _ _ h => h) (Or.inl ⟨by rfl, ?_⟩) hS2 ?_
          rotate_left
          · intro wS hS; go_simp; (try with_reducible rfl)
          simp only [Act.put, List.getElem_toArray, List.getElem_cons_succ, List.getElem_cons_zero, List.setIfInBounds_toArray, List.set_cons_succ, List.set_cons_zero]
          refine wpAnyL_take (i := 15) (f0 := 33) (v := ?_) rfl (by decide +kernel) (by decide +kernel) (by decide +kernel) (by decide +kernel) (by decide +kernel) (fun _ _ _ h => h) (Or.inl ⟨by rfl, ?_⟩) hS2 ?_
          rotate_left
          · intro wS hS; obtain ⟨q0, q1, q2, q3, q4, q5, q6⟩ := iCells hS.r2; go_simp; (try with_reducible rfl)
          simp only [Act.put, List.getElem_toArray, List.getElem_cons_succ, List.getElem_cons_zero, List.setIfInBounds_toArray, List.set_cons_succ, List.set_cons_zero]
          refine wpAnyL_take (i := 16) (f0 := 33) (v := ?_) rfl (by decide +kernel) (by decide +kernel) (by decide +kernel) (by decide +kernel) (by decide +kernel) (fun _ _ _ h => h) (Or.inl ⟨by rfl, ?_⟩) hS2 ?_
          rotate_left
          · intro wS hS; go_simp; (try with_reducible rfl)
          simp only [Act.put, List.getElem_toArray, List.getElem_cons_succ, List.getElem_cons_zero, List.setIfInBounds_toArray, List.set_cons_succ, List.set_cons_zero]
          refine wpAnyL_take (i := 17) (f0 := 33) (v := ?_) rfl (by decide +kernel) (by decide +kernel) (by decide +kernel) (by decide +kernel) (by decide +kernel) (fun _ _ _ h => h) (Or.inl ⟨by rfl, ?_⟩) hS2 ?_
          rotate_left
          · intro wS hS; go_simp; (try with_reducible rfl)
          simp only [Act.put, List.getElem_toArray, List.getElem_cons_succ, List.getElem_cons_zero, List.setIfInBounds_toArray, List.set_cons_succ, List.set_cons_zero]
          refine wpAnyL_take (i := 18) (f0 := 33) (v := ?_) rfl (by decide +kernel) (by decide +kernel) (by decide +kernel) (by decide +kernel) (by decide +kernel) (fun _ _ _ h => h) (Or.inl ⟨by rfl, ?_⟩) hS2 ?_
          rotate_left
          · intro wS hS; go_simp; (try with_reducible rfl)
          simp only [Act.put, List.getElem_toArray, List.getElem_cons_succ, List.getElem_cons_zero, List.setIfInBounds_toArray, List.set_cons_succ, List.set_cons_zero]
          refine wpAnyL_take (i := 19) (f0 := 33) (v := undef) rfl (by decide +kernel) (by decide +kernel) (by decide +kernel) (by decide +kernel) (by decide +kernel) (fun _ _ _ h => h) (Or.inr ⟨by rfl, rfl⟩) hS2 ?_
          simp only [Act.put, List.getElem_toArray, List.getElem_cons_succ, List.getElem_cons_zero, List.setIfInBounds_toArray, List.set_cons_succ, List.set_cons_zero]
          refine wpAnyL_take (i := 20) (f0 := 33) (v := undef) rfl (by decide +kernel) (by decide +kernel) (by decide +kernel) (by decide +kernel) (by decide +kernel) (fun _ _ _ h => h) (Or.inr ⟨by rfl, rfl⟩) hS2 ?_
          simp only [Act.put, List.getElem_toArray, List.getElem_cons_succ, List.getElem_cons_zero, List.setIfInBounds_toArray, List.set_cons_succ, List.set_cons_zero]
          refine wpAnyL_take (i := 21) (f0 := 33) (v := undef) rfl (by decide +kernel) (by decide +kernel) (by decide +kernel) (by decide +kernel) (by decide +kernel) (fun _ _ _ h => h) (Or.inr ⟨by rfl, rfl⟩) hS2 ?_
          simp only [Act.put, List.getElem_toArray, List.getElem_cons_succ, List.getElem_cons_zero, List.setIfInBounds_toArray, List.set_cons_succ, List.set_cons_zero]
          refine wpAnyL_take (i := 22) (f0 := 33) (v := undef) rfl (by decide +kernel) (by decide +kernel) (by decide +kernel) (by decide +kernel) (by decide +kernel) (fun _ _ _ h => h) (Or.inr ⟨by rfl, rfl⟩) hS2 ?_
          simp only [Act.put, List.getElem_toArray, List.getElem_cons_succ, List.getElem_cons_zero, List.setIfInBounds_toArray, List.set_cons_succ, List.set_cons_zero]
          refine wpAnyL_take (i := 23) (f0 := 33) (v := undef) rfl (by decide +kernel) (by decide +kernel) (by decide +kernel) (by decide +kernel) (by decide +kernel) (fun _ _ _ h => h) (Or.inr ⟨by rfl, rfl⟩) hS2 ?_
          simp only [Act.put, List.getElem_toArray, List.getElem_cons_succ, List.getElem_cons_zero, List.setIfInBounds_toArray, List.set_cons_succ, List.set_cons_zero]
          refine wpAnyL_take (i := 24) (f0 := 33) (v := undef) rfl (by decide +kernel) (by decide +kernel) (by decide +kernel) (by decide +kernel) (by decide +kernel) (fun _ _ _ h => h) (Or.inr ⟨by rfl, rfl⟩) hS2 ?_
          simp only [Act.put, List.getElem_toArray, List.getElem_cons_succ, List.getElem_cons_zero, List.setIfInBounds_toArray, List.set_cons_succ, List.set_cons_zero]
          refine wpAnyL_take (i := 25) (f0 := 33) (v := undef) rfl (by decide +kernel) (by decide +kernel) (by decide +kernel) (by decide +kernel) (by decide +kernel) (fun _ _ _ h => h) (Or.inr ⟨by rfl, rfl⟩) hS2 ?_
          simp only [Act.put, List.getElem_toArray, List.getElem_cons_succ, List.getElem_cons_zero, List.setIfInBounds_toArray, List.set_cons_succ, List.set_cons_zero]
          refine wpAnyL_take (i := 26) (f0 := 33) (v := undef) rfl (by decide +kernel) (by decide +kernel) (by decide +kernel) (by decide +kernel) (by decide +kernel) (fun _ _ _ h => h) (Or.inr ⟨by rfl, rfl⟩) hS2 ?_
          simp only [Act.put, List.getElem_toArray, List.getElem_cons_succ, List.getElem_cons_zero, List.setIfInBounds_toArray, List.set_cons_succ, List.set_cons_zero]
          refine wpAnyL_take (i := 27) (f0 := 33) (v := undef) rfl (by decide +kernel) (by decide +kernel) (by decide +kernel) (by decide +kernel) (by decide +kernel) (fun _ _ _ h => h) (Or.inr ⟨by rfl, rfl⟩) hS2 ?_
          simp only [Act.put, List.getElem_toArray, List.getElem_cons_succ, List.getElem_cons_zero, List.setIfInBounds_toArray, List.set_cons_succ, List.set_cons_zero]
          refine wpAnyL_take (i := 28) (f0 := 33) (v := undef) rfl (by decide +kernel) (by decide +kernel) (by decide +kernel) (by decide +kernel) (by decide +kernel) (fun _ _ _ h => h) (Or.inr ⟨by rfl, rfl⟩) hS2 ?_
          simp only [Act.put, List.getElem_toArray, List.getElem_cons_succ, List.getElem_cons_zero, List.setIfInBounds_toArray, List.set_cons_succ, List.set_cons_zero]
          refine wpAnyL_take (i := 29) (f0 := 33) (v := ?_) rfl (by decide +kernel) (by decide +kernel) (by decide +kernel) (by decide +kernel) (by decide +kernel) (fun _ _ _ h => h) (Or.inl ⟨by rfl, ?_⟩) hS2 ?_
          rotate_left
          · intro wS hS; go_simp; (try with_reducible rfl)
          simp only [Act.put, List.getElem_toArray, List.getElem_cons_succ, List.getElem_cons_zero, List.setIfInBounds_toArray, List.set_cons_succ, List.set_cons_zero]
          refine wpAnyL_take (i := 30) (f0 := 33) (v := ?_) rfl (by decide +kernel) (by decide +kernel) (by decide +kernel) (by decide +kernel) (by decide +kernel) (fun _ _ _ h => h) (Or.inl ⟨by rfl, ?_⟩) hS2 ?_
          rotate_left
          · intro wS hS; go_simp; (try with_reducible rfl)
          simp only [Act.put, List.getElem_toArray, List.getElem_cons_succ, List.getElem_cons_zero, List.setIfInBounds_toArray, List.set_cons_succ, List.set_cons_zero]
          refine wpAnyL_done (by decide +kernel) ?_ _
          refine NoPanic.normal ?_
          go_wp2
          go_ret
          exact ⟨ret_bool E9.out, hb2⟩
        | false =>
          try clear hc1
          try clear hc2
          refine wp_region_noPanic ?_
          refine wp_region_L (PS w.heap.size (w.heap.size + 1) p A m c) 31 hmx ?_
          have hdr := (Below.refl w1.heap.size w1).drew
          have hS2 : (PS w.heap.size (w.heap.size + 1) p A m c) w1.drew := hS1.below hdr
          have hb2 := bnext hb1 hdr
          clear hdr hS1 hb1
          generalize w1.drew = w2 at *
          obtain ⟨LF, hLF⟩ : ∃ K, Dg.leafI p.it = K := ⟨_, rfl⟩
          have HKZ := hide (show LF.size ≤ 1048576 by rw [← hLF]; exact leafI_size2 HZ.out)
          have HC := hide (show checkB root p.count p.idx LF p.path = R by rw [← HR.out, checkP_rest HKO.out HNO.out hg, hLF])
          have HLF := hide hLF
          clear hLF
          refine wpAnyL_take (i := 0) (f0 := 33) (v := ?_) rfl (by decide +kernel) (by decide +kernel) (by decide +kernel) (by decide +kernel) (by decide +kernel) (fun _ _ _ h => h) (Or.inl ⟨by rfl, ?_⟩) hS2 ?_
          rotate_left
          · intro wS hS; go_simp; (try with_reducible rfl)
          simp only [Act.put, List.getElem_toArray, List.getElem_cons_zero, List.setIfInBounds_toArray, List.set_cons_succ, List.set_cons_zero]
          refine wpAnyL_take (i := 1) (f0 := 33) (v := ?_) rfl (by decide +kernel) (by decide +kernel) (by decide +kernel) (by decide +kernel) (by decide +kernel) (fun _ _ _ h => h) (Or.inl ⟨by rfl, ?_⟩) hS2 ?_
          rotate_left
          · intro wS hS; obtain ⟨q0, q1, q2, q3, q4, q5, q6⟩ := iCells hS.r2; go_simp; (try with_reducible rfl)
          simp only [Act.put, List.getElem_toArray, List.getElem_cons_succ, List.getElem_cons_zero, List.setIfInBounds_toArray, List.set_cons_succ, List.set_cons_zero]
          refine wpAnyL_take (i := 2) (f0 := 33) (v := ?_) rfl (by decide +kernel) (by decide +kernel) (by decide +kernel) (by decide +kernel) (by decide +kernel) (fun _ _ _ h => h) (Or.inl ⟨by rfl, ?_⟩) hS2 ?_
          rotate_left
          · intro wS hS; go_simp; (try with_reducible rfl)
          simp only [Act.put, List.getElem_toArray, List.getElem_cons_succ, List.getElem_cons_zero, List.setIfInBounds_toArray, List.set_cons_succ, List.set_cons_zero]
          refine wpAnyL_take (i := 3) (f0 := 33) (v := ?_) rfl (by decide +kernel) (by decide +kernel) (by decide +kernel) (by decide +kernel) (by decide +kernel) (fun _ _ _ h => h) (Or.inl ⟨by rfl, ?_⟩) hS2 ?_
          rotate_left
          · intro wS hS; go_simp; (try with_reducible rfl)
          simp only [Act.put, List.getElem_toArray, List.getElem_cons_succ, List.getElem_cons_zero, List.setIfInBounds_toArray, List.set_cons_succ, List.set_cons_zero]
          refine wpAnyL_take (i := 4) (f0 := 33) (v := ?_) rfl (by decide +kernel) (by decide +kernel) (by decide +kernel) (by decide +kernel) (by decide +kernel) (fun _ _ _ h => h) (Or.inl ⟨by rfl, ?_⟩) hS2 ?_
          rotate_left
          · intro wS hS; go_simp; (try with_reducible rfl)
          simp only [Act.put, List.getElem_toArray, List.getElem_cons_succ, List.getElem_cons_zero, List.setIfInBounds_toArray, List.set_cons_succ, List.set_cons_zero]
          refine wpAnyL_take (i := 5) (f0 := 33) (v := ?_) rfl (by decide +kernel) (by decide +kernel) (by decide +kernel) (by decide +kernel) (by decide +kernel) (fun _ _ _ h => h) (Or.inl ⟨by rfl, ?_⟩) hS2 ?_
          rotate_left
          · intro wS hS; obtain ⟨q0, q1, q2, q3, q4, q5, q6⟩ := iCells hS.r2; go_simp; (try with_reducible rfl)
          simp only [Act.put, List.getElem_toArray, List.getElem_cons_succ, List.getElem_cons_zero, List.setIfInBounds_toArray, List.set_cons_succ, List.set_cons_zero]
          refine wpAnyL_take (i := 6) (f0 := 33) (v := ?_) rfl (by decide +kernel) (by decide +kernel) (by decide +kernel) (by decide +kernel) (by decide +kernel) (fun _ _ _ h => h) (Or.inl ⟨by rfl, ?_⟩) hS2 ?_
          rotate_left
          · intro wS hS; go_simp; (try with_reducible rfl)
          simp only [Act.put, List.getElem_toArray, List.getElem_cons_succ, List.getElem_cons_zero, List.setIfInBounds_toArray, List.set_cons_succ, List.set_cons_zero]
          refine wpAnyL_take (i := 7) (f0 := 33) (v := ?_) rfl (by decide +kernel) (by decide +kernel) (by decide +kernel) (by decide +kernel) (by decide +kernel) (fun _ _ _ h => h) (Or.inl ⟨by rfl, ?_⟩) hS2 ?_
          rotate_left
          · intro wS hS; go_simp; (try with_reducible rfl)
          simp only [Act.put, List.getElem_toArray, List.getElem_cons_succ, List.getElem_cons_zero, List.setIfInBounds_toArray, List.set_cons_succ, List.set_cons_zero]
          refine wpAnyL_take (i := 8) (f0 := 33) (v := ?_) rfl (by decide +kernel) (by decide +kernel) (by decide +kernel) (by decide +kernel) (by decide +kernel) (fun _ _ _ h => h) (Or.inl ⟨by rfl, ?_⟩) hS2 ?_
          rotate_left
          · intro wS hS; go_simp; (try with_reducible rfl)
          simp only [Act.put, List.getElem_toArray, List.getElem_cons_succ, List.getElem_cons_zero, List.setIfInBounds_toArray, List.set_cons_succ, List.set_cons_zero]
          refine wpAnyL_take (i := 9) (f0 := 33) (v := ?_) rfl (by decide +kernel) (by decide +kernel) (by decide +kernel) (by decide +kernel) (by decide +kernel) (fun _ _ _ h => h) (Or.inl ⟨by rfl, ?_⟩) hS2 ?_
          rotate_left
          · intro wS hS; go_simp; (try with_reducible rfl)
          simp only [Act.put, List.getElem_toArray, List.getElem_cons_succ, List.getElem_cons_zero, List.setIfInBounds_toArray, List.set_cons_succ, List.set_cons_zero]
          refine wpAnyL_take (i := 10) (f0 := 33) (v := ?_) rfl (by decide +kernel) (by decide +kernel) (by decide +kernel) (by decide +kernel) (by decide +kernel) (fun _ _ _ h => h) (Or.inl ⟨by rfl, ?_⟩) hS2 ?_
          rotate_left
          · intro wS hS; obtain ⟨q0, q1, q2, q3, q4, q5, q6⟩ := iCells hS.r2; go_simp; (try with_reducible rfl)
          simp only [Act.put, List.getElem_toArray, List.getElem_cons_succ, List.getElem_cons_zero, List.setIfInBounds_toArray, List.set_cons_succ, List.set_cons_zero]
          refine wpAnyL_take (i := 11) (f0 := 33) (v := ?_) rfl (by decide +kernel) (by decide +kernel) (by decide +kernel) (by decide +kernel) (by decide +kernel) (fun _ _ _ h => h) (Or.inl ⟨by rfl, ?_⟩) hS2 ?_
          rotate_left
          · intro wS hS; go_simp; (try with_reducible rfl)
          simp only [Act.put, List.getElem_toArray, List.getElem_cons_succ, List.getElem_cons_zero, List.setIfInBounds_toArray, List.set_cons_succ, List.set_cons_zero]
          refine wpAnyL_take (i := 12) (f0 := 33) (v := ?_) rfl (by decide +kernel) (by decide +kernel) (by decide +kernel) (by decide +kernel) (by decide +kernel) (fun _ _ _ h => h) (Or.inl ⟨by rfl, ?_⟩) hS2 ?_
          rotate_left
          · intro wS hS; go_simp; (try with_reducible rfl)
          simp only [Act.put, List.getElem_toArray, List.getElem_cons_succ, List.getElem_cons_zero, List.setIfInBounds_toArray, List.set_cons_succ, List.set_cons_zero]
          refine wpAnyL_take (i := 13) (f0 := 33) (v := ?_) rfl (by decide +kernel) (by decide +kernel) (by decide +kernel) (by decide +kernel) (by decide +kernel) (fun _ _ _ h => h) (Or.inl ⟨by rfl, ?_⟩) hS2 ?_
          rotate_left
          · intro wS hS; go_simp; (try with_reducible rfl)
          simp only [Act.put, List.getElem_toArray, List.getElem_cons_succ, List.getElem_cons_zero, List.setIfInBounds_toArray, List.set_cons_succ, List.set_cons_zero]
          refine wpAnyL_take (i := 14) (f0 := 33) (v := ?_) rfl (by decide +kernel) (by decide +kernel) (by decide +kernel) (by decide +kernel) (by decide +kernel) (fun _ _ _ h => h) (Or.inl ⟨by rfl, ?_⟩) hS2 ?_
          rotate_left
          · intro wS hS; go_simp; (try with_reducible rfl)
          simp only [Act.put, List.getElem_toArray, List.getElem_cons_succ, List.getElem_cons_zero, List.setIfInBounds_toArray, List.set_cons_succ, List.set_cons_zero]
          refine wpAnyL_take (i := 15) (f0 := 33) (v := ?_) rfl (by decide +kernel) (by decide +kernel) (by decide +kernel) (by decide +kernel) (by decide +kernel) (fun _ _ _ h => h) (Or.inl ⟨by rfl, ?_⟩) hS2 ?_
          rotate_left
          · intro wS hS; obtain ⟨q0, q1, q2, q3, q4, q5, q6⟩ := iCells hS.r2; go_simp; (try with_reducible rfl)
          simp only [Act.put, List.getElem_toArray, List.getElem_cons_succ, List.getElem_cons_zero, List.setIfInBounds_toArray, List.set_cons_succ, List.set_cons_zero]
          refine wpAnyL_take (i := 16) (f0 := 33) (v := ?_) rfl (by decide +kernel) (by decide +kernel) (by decide +kernel) (by decide +kernel) (by decide +kernel) (fun _ _ _ h => h) (Or.inl ⟨by rfl, ?_⟩) hS2 ?_
          rotate_left
          · intro wS hS; go_simp; (try with_reducible rfl)
          simp only [Act.put, List.getElem_toArray, List.getElem_cons_succ, List.getElem_cons_zero, List.setIfInBounds_toArray, List.set_cons_succ, List.set_cons_zero]
          refine wpAnyL_take (i := 17) (f0 := 33) (v := ?_) rfl (by decide +kernel) (by decide +kernel) (by decide +kernel) (by decide +kernel) (by decide +kernel) (fun _ _ _ h => h) (Or.inl ⟨by rfl, ?_⟩) hS2 ?_
          rotate_left
          · intro wS hS; go_simp; (try with_reducible rfl)
          simp only [Act.put, List.getElem_toArray, List.getElem_cons_succ, List.getElem_cons_zero, List.setIfInBounds_toArray, List.set_cons_succ, List.set_cons_zero]
          refine wpAnyL_take (i := 18) (f0 := 33) (v := ?_) rfl (by decide +kernel) (by decide +kernel) (by decide +kernel) (by decide +kernel) (by decide +kernel) (fun _ _ _ h => h) (Or.inl ⟨by rfl, ?_⟩) hS2 ?_
          rotate_left
          · intro wS hS; go_simp; (try with_reducible rfl)
          simp only [Act.put, List.getElem_toArray, List.getElem_cons_succ, List.getElem_cons_zero, List.setIfInBounds_toArray, List.set_cons_succ, List.set_cons_zero]
          refine wpAnyL_take (i := 19) (f0 := 33) (v := ?_) rfl (by decide +kernel) (by decide +kernel) (by decide +kernel) (by decide +kernel) (by decide +kernel) (fun _ _ _ h => h) (Or.inl ⟨by rfl, ?_⟩) hS2 ?_
          rotate_left
          · intro wS hS; go_simp; (try with_reducible rfl)
          simp only [Act.put, List.getElem_toArray, List.getElem_cons_succ, List.getElem_cons_zero, List.setIfInBounds_toArray, List.set_cons_succ, List.set_cons_zero]
          refine wpAnyL_take (i := 20) (f0 := 33) (v := ?_) rfl (by decide +kernel) (by decide +kernel) (by decide +kernel) (by decide +kernel) (by decide +kernel) (fun _ _ _ h => h) (Or.inl ⟨by rfl, ?_⟩) hS2 ?_
          rotate_left
          · intro wS hS; go_simp; (try with_reducible rfl)
          simp only [Act.put, List.getElem_toArray, List.getElem_cons_succ, List.getElem_cons_zero, List.setIfInBounds_toArray, List.set_cons_succ, List.set_cons_zero]
          refine wpAnyL_take (i := 21) (f0 := 33) (v := ?_) rfl (by decide +kernel) (by decide +kernel) (by decide +kernel) (by decide +kernel) (by decide +kernel) (fun _ _ _ h => h) (Or.inl ⟨by rfl, ?_⟩) hS2 ?_
          rotate_left
          · intro wS hS; obtain ⟨q0, q1, q2, q3, q4, q5, q6, q7, q8, q9⟩ := jCells10 hS.r1; go_simp; (try with_reducible rfl)
          simp only [Act.put, List.getElem_toArray, List.getElem_cons_succ, List.getElem_cons_zero, List.setIfInBounds_toArray, List.set_cons_succ, List.set_cons_zero]
          refine wpAnyL_take (i := 22) (f0 := 33) (v := ?_) rfl (by decide +kernel) (by decide +kernel) (by decide +kernel) (by decide +kernel) (by decide +kernel) (fun _ _ _ h => h) (Or.inl ⟨by rfl, ?_⟩) hS2 ?_
          rotate_left
          · intro wS hS; go_simp; (try with_reducible rfl)
          simp only [Act.put, List.getElem_toArray, List.getElem_cons_succ, List.getElem_cons_zero, List.setIfInBounds_toArray, List.set_cons_succ, List.set_cons_zero]
          refine wpAnyL_take (i := 23) (f0 := 33) (v := ?_) rfl (by decide +kernel) (by decide +kernel) (by decide +kernel) (by decide +kernel) (by decide +kernel) (fun _ _ _ h => h) (Or.inl ⟨by rfl, ?_⟩) hS2 ?_
          rotate_left
          · intro wS hS; obtain ⟨q0, q1, q2, q3, q4, q5, q6, q7, q8, q9⟩ := jCells10 hS.r1; go_simp; (try with_reducible rfl)
          simp only [Act.put, List.getElem_toArray, List.getElem_cons_succ, List.getElem_cons_zero, List.setIfInBounds_toArray, List.set_cons_succ, List.set_cons_zero]
          refine wpAnyL_take (i := 24) (f0 := 33) (v := ?_) rfl (by decide +kernel) (by decide +kernel) (by decide +kernel) (by decide +kernel) (by decide +kernel) (fun _ _ _ h => h) (Or.inl ⟨by rfl, ?_⟩) hS2 ?_
          rotate_left
          · intro wS hS; obtain ⟨q0, q1, q2, q3, q4, q5, q6⟩ := iCells hS.r2; go_simp; (try with_reducible rfl)
          simp only [Act.put, List.getElem_toArray, List.getElem_cons_succ, List.getElem_cons_zero, List.setIfInBounds_toArray, List.set_cons_succ, List.set_cons_zero]
          refine wpAnyL_take (i := 26) (f0 := 33) (v := ?_) rfl (by decide +kernel) (by decide +kernel) (by decide +kernel) (by decide +kernel) (by decide +kernel) (fun _ _ _ h => h) (Or.inl ⟨by rfl, ?_⟩) hS2 ?_
          rotate_left
          · intro wS hS; go_simp; (try with_reducible rfl)
          simp only [Act.put, List.getElem_toArray, List.getElem_cons_succ, List.getElem_cons_zero, List.setIfInBounds_toArray, List.set_cons_succ, List.set_cons_zero]
          refine wpAnyL_take (i := 27) (f0 := 33) (v := ?_) rfl (by decide +kernel) (by decide +kernel) (by decide +kernel) (by decide +kernel) (by decide +kernel) (fun _ _ _ h => h) (Or.inl ⟨by rfl, ?_⟩) hS2 ?_
          rotate_left
          · intro wS hS; obtain ⟨q0, q1, q2, q3, q4, q5, q6, q7, q8, q9⟩ := jCells10 hS.r1; go_simp; (try with_reducible rfl)
          simp only [Act.put, List.getElem_toArray, List.getElem_cons_succ, List.getElem_cons_zero, List.setIfInBounds_toArray, List.set_cons_succ, List.set_cons_zero]
          refine wpAnyL_one (i := 25) (by decide +kernel) (by rfl) (fun K hK => ?_)
          rw [if_pos (by rfl)]
          go_simp
          refine (rleaf_g p.it false (fun s hs => Nat.le_trans (HZ.out s hs) (by decide)) w2 LF HLF.out).mono ?_
          rintro e w3 ⟨rfl, hx3⟩
          have hS3 : (PS w.heap.size (w.heap.size + 1) p A m c) w3 := hS2.below hx3
          have hb3 := bnext hb2 hx3
          refine hK.out _ _ (Or.inr hS3) ?_
          clear hK K hS2 hb2 hx3
          try simp only [Act.put, List.getElem_toArray, List.getElem_cons_succ, List.getElem_cons_zero, List.setIfInBounds_toArray, List.set_cons_succ, List.set_cons_zero]
          refine wpAnyL_one (i := 28) (by decide +kernel) (by rfl) (fun K hK => ?_)
          rw [if_pos (by rfl)]
          go_simp
          refine (rcheck_of root p.count p.idx LF A c m p.path R HC.out w3 HM.out hm2 hmc HPS.out (by have := HKZ.out; omega) hS3.path).mono ?_
          rintro e w4 ⟨rfl, hx4⟩
          have hS4 : (PS w.heap.size (w.heap.size + 1) p A m c) w4 := hS3.below hx4
          have hb4 := bnext hb3 hx4
          refine hK.out _ _ (Or.inr hS4) ?_
          clear hK K hS3 hb3 hx4
          try simp only [Act.put, List.getElem_toArray, List.getElem_cons_succ, List.getElem_cons_zero, List.setIfInBounds_toArray, List.set_cons_succ, List.set_cons_zero]
          refine wpAnyL_take (i := 29) (f0 := 33) (v := ?_) rfl (by decide +kernel) (by decide +kernel) (by decide +kernel) (by decide +kernel) (by decide +kernel) (fun _ _ _ h => h) (Or.inl ⟨by rfl, ?_⟩) hS4 ?_
          rotate_left
          · intro wS hS; go_simp; (try with_reducible rfl)
          simp only [Act.put, List.getElem_toArray, List.getElem_cons_succ, List.getElem_cons_zero, List.setIfInBounds_toArray, List.set_cons_succ, List.set_cons_zero]
          refine wpAnyL_take (i := 30) (f0 := 33) (v := ?_) rfl (by decide +kernel) (by decide +kernel) (by decide +kernel) (by decide +kernel) (by decide +kernel) (fun _ _ _ h => h) (Or.inl ⟨by rfl, ?_⟩) hS4 ?_
          rotate_left
          · intro wS hS; go_simp; (try with_reducible rfl)
          simp only [Act.put, List.getElem_toArray, List.getElem_cons_succ, List.getElem_cons_zero, List.setIfInBounds_toArray, List.set_cons_succ, List.set_cons_zero]
          refine wpAnyL_done (by decide +kernel) ?_ _
          refine NoPanic.normal ?_
          go_wp2
          go_ret
          exact ⟨rfl, hb4⟩
    · have kb1 : (p.it.kind == 1) = false := beq_eq_false_iff_ne.2 k1
      clear k1
      have E9 := hide (show false = R by rw [← HR.out]; exact (checkP_kind (by unfold kindOk; rw [kb2, kb1]; rfl)).symm)
      try clear hc1
      try clear hc2
      refine wp_region_noPanic ?_
      refine wp_region_L (PS w.heap.size (w.heap.size + 1) p A m c) 31 hmx ?_
      have hdr := (Below.refl w1.heap.size w1).drew
      have hS2 : (PS w.heap.size (w.heap.size + 1) p A m c) w1.drew := hS1.below hdr
      have hb2 := bnext hb1 hdr
      clear hdr hS1 hb1
      generalize w1.drew = w2 at *
      refine wpAnyL_take (i := 0) (f0 := 33) (v := ?_) rfl (by decide +kernel) (by decide +kernel) (by decide +kernel) (by decide +kernel) (by decide +kernel) (fun _ _ _ h => h) (Or.inl ⟨by rfl, ?_⟩) hS2 ?_
      rotate_left
      · intro wS hS; go_simp; (try with_reducible rfl)
      simp only [Act.put, List.getElem_toArray, List.getElem_cons_zero, List.setIfInBounds_toArray, List.set_cons_succ, List.set_cons_zero]
      refine wpAnyL_take (i := 1) (f0 := 33) (v := ?_) rfl (by decide +kernel) (by decide +kernel) (by decide +kernel) (by decide +kernel) (by decide +kernel) (fun _ _ _ h => h) (Or.inl ⟨by rfl, ?_⟩) hS2 ?_
      rotate_left
      · intro wS hS; obtain ⟨q0, q1, q2, q3, q4, q5, q6⟩ := iCells hS.r2; go_simp; (try with_reducible rfl)
      simp only [Act.put, List.getElem_toArray, List.getElem_cons_succ, List.getElem_cons_zero, List.setIfInBounds_toArray, List.set_cons_succ, List.set_cons_zero]
      refine wpAnyL_take (i := 2) (f0 := 33) (v := ?_) rfl (by decide +kernel) (by decide +kernel) (by decide +kernel) (by decide +kernel) (by decide +kernel) (fun _ _ _ h => h) (Or.inl ⟨by rfl, ?_⟩) hS2 ?_
      rotate_left
      · intro wS hS; go_simp; (try with_reducible rfl)
      simp only [Act.put, List.getElem_toArray, List.getElem_cons_succ, List.getElem_cons_zero, List.setIfInBounds_toArray, List.set_cons_succ, List.set_cons_zero]
      refine wpAnyL_take (i := 3) (f0 := 33) (v := ?_) rfl (by decide +kernel) (by decide +kernel) (by decide +kernel) (by decide +kernel) (by decide +kernel) (fun _ _ _ h => h) (Or.inl ⟨by rfl, ?_⟩) hS2 ?_
      rotate_left
      · intro wS hS; go_simp; (try with_reducible rfl)
      simp only [Act.put, List.getElem_toArray, List.getElem_cons_succ, List.getElem_cons_zero, List.setIfInBounds_toArray, List.set_cons_succ, List.set_cons_zero]
      refine wpAnyL_take (i := 4) (f0 := 33) (v := ?_) rfl (by decide +kernel) (by decide +kernel) (by decide +kernel) (by decide +kernel) (by decide +kernel) (fun _ _ _ h => h) (Or.inl ⟨by rfl, ?_⟩) hS2 ?_
      rotate_left
      · intro wS hS; go_simp; (try with_reducible rfl)
      simp only [Act.put, List.getElem_toArray, List.getElem_cons_succ, List.getElem_cons_zero, List.setIfInBounds_toArray, List.set_cons_succ, List.set_cons_zero]
      refine wpAnyL_take (i := 5) (f0 := 33) (v := ?_) rfl (by decide +kernel) (by decide +kernel) (by decide +kernel) (by decide +kernel) (by decide +kernel) (fun _ _ _ h => h) (Or.inl ⟨by rfl, ?_⟩) hS2 ?_
      rotate_left
      · intro wS hS; obtain ⟨q0, q1, q2, q3, q4, q5, q6⟩ := iCells hS.r2; go_simp; (try with_reducible rfl)
      simp only [Act.put, List.getElem_toArray, List.getElem_cons_succ, List.getElem_cons_zero, List.setIfInBounds_toArray, List.set_cons_succ, List.set_cons_zero]
      refine wpAnyL_take (i := 6) (f0 := 33) (v := ?_) rfl (by decide +kernel) (by decide +kernel) (by decide +kernel) (by decide +kernel) (by decide +kernel) (fun _ _ _ h => h) (Or.inl ⟨by rfl, ?_⟩) hS2 ?_
      rotate_left
      · intro wS hS; go_simp; (try with_reducible rfl)
      simp only [Act.put, List.getElem_toArray, List.getElem_cons_succ, List.getElem_cons_zero, List.setIfInBounds_toArray, List.set_cons_succ, List.set_cons_zero]
      refine wpAnyL_take (i := 7) (f0 := 33) (v := ?_) rfl (by decide +kernel) (by decide +kernel) (by decide +kernel) (by decide +kernel) (by decide +kernel) (fun _ _ _ h => h) (Or.inl ⟨by rfl, ?_⟩) hS2 ?_
      rotate_left
      · intro wS hS; go_simp; (try with_reducible rfl)
      simp only [Act.put, List.getElem_toArray, List.getElem_cons_succ, List.getElem_cons_zero, List.setIfInBounds_toArray, List.set_cons_succ, List.set_cons_zero]
      refine wpAnyL_take (i := 8) (f0 := 33) (v := ?_) rfl (by decide +kernel) (by decide +kernel) (by decide +kernel) (by decide +kernel) (by decide +kernel) (fun _ _ _ h => h) (Or.inl ⟨by rfl, ?_⟩) hS2 ?_
      rotate_left
      · intro wS hS; go_simp; (try with_reducible rfl)
      simp only [Act.put, List.getElem_toArray, List.getElem_cons_succ, List.getElem_cons_zero, List.setIfInBounds_toArray, List.set_cons_succ, List.set_cons_zero]
      refine wpAnyL_take (i := 9) (f0 := 33) (v := undef) rfl (by decide +kernel) (by decide +kernel) (by decide +kernel) (by decide +kernel) (by decide +kernel) (fun _ _ _ h => h) (Or.inr ⟨by rfl, rfl⟩) hS2 ?_
      simp only [Act.put, List.getElem_toArray, List.getElem_cons_succ, List.getElem_cons_zero, List.setIfInBounds_toArray, List.set_cons_succ, List.set_cons_zero]
      refine wpAnyL_take (i := 10) (f0 := 33) (v := undef) rfl (by decide +kernel) (by decide +kernel) (by decide +kernel) (by decide +kernel) (by decide +kernel) (fun _ _ _ h => h) (Or.inr ⟨by rfl, rfl⟩) hS2 ?_
      simp only [Act.put, List.getElem_toArray, List.getElem_cons_succ, List.getElem_cons_zero, List.setIfInBounds_toArray, List.set_cons_succ, List.set_cons_zero]
      refine wpAnyL_take (i := 11) (f0 := 33) (v := undef) rfl (by decide +kernel) (by decide +kernel) (by decide +kernel) (by decide +kernel) (by decide +kernel) (fun _ _ _ h => h) (Or.inr ⟨by rfl, rfl⟩) hS2 ?_
      simp only [Act.put, List.getElem_toArray, List.getElem_cons_succ, List.getElem_cons_zero, List.setIfInBounds_toArray, List.set_cons_succ, List.set_cons_zero]
      refine wpAnyL_take (i := 12) (f0 := 33) (v := ?_) rfl (by decide +kernel) (by decide +kernel) (by decide +kernel) (by decide +kernel) (by decide +kernel) (fun _ _ _ h => h) (Or.inl ⟨by rfl, ?_⟩) hS2 ?_
      rotate_left
      · intro wS hS; go_simp; (try with_reducible rfl)
      simp only [Act.put, List.getElem_toArray, List.getElem_cons_succ, List.getElem_cons_zero, List.setIfInBounds_toArray, List.set_cons_succ, List.set_cons_zero]
      refine wpAnyL_take (i := 13) (f0 := 33) (v := ?_) rfl (by decide +kernel) (by decide +kernel) (by decide +kernel) (by decide +kernel) (by decide +kernel) (fun _ _ _ h => h) (Or.inl ⟨by rfl, ?_⟩) hS2 ?_
      rotate_left
      · intro wS hS; go_simp; (try with_reducible rfl)
      simp only [Act.put, List.getElem_toArray, List.getElem_cons_succ, List.getElem_cons_zero, List.setIfInBounds_toArray, List.set_cons_succ, List.set_cons_zero]
      refine wpAnyL_take (i := 14) (f0 := 33) (v := undef) rfl (by decide +kernel) (by decide +kernel) (by decide +kernel) (by decide +kernel) (by decide +kernel) (fun _ _ _ h => h) (Or.inr ⟨by rfl, rfl⟩) hS2 ?_
      simp only [Act.put, List.getElem_toArray, List.getElem_cons_succ, List.getElem_cons_zero, List.setIfInBounds_toArray, List.set_cons_succ, List.set_cons_zero]
      refine wpAnyL_take (i := 15) (f0 := 33) (v := undef) rfl (by decide +kernel) (by decide +kernel) (by decide +kernel) (by decide +kernel) (by decide +kernel) (fun _ _ _ h => h) (Or.inr ⟨by rfl, rfl⟩) hS2 ?_
      simp only [Act.put, List.getElem_toArray, List.getElem_cons_succ, List.getElem_cons_zero, List.setIfInBounds_toArray, List.set_cons_succ, List.set_cons_zero]
      refine wpAnyL_take (i := 16) (f0 := 33) (v := undef) rfl (by decide +kernel) (by decide +kernel) (by decide +kernel) (by decide +kernel) (by decide +kernel) (fun _ _ _ h => h) (Or.inr ⟨by rfl, rfl⟩) hS2 ?_
      simp only [Act.put, List.getElem_toArray, List.getElem_cons_succ, List.getElem_cons_zero, List.setIfInBounds_toArray, List.set_cons_succ, List.set_cons_zero]
      refine wpAnyL_take (i := 17) (f0 := 33) (v := ?_) rfl (by decide +kernel) (by decide +kernel) (by decide +kernel) (by decide +kernel) (by decide +kernel) (fun _ _ _ h => h) (Or.inl ⟨by rfl, ?_⟩) hS2 ?_
      rotate_left
      · intro wS hS; go_simp; (try with_reducible rfl)
      simp only [Act.put, List.getElem_toArray, List.getElem_cons_succ, List.getElem_cons_zero, List.setIfInBounds_toArray, List.set_cons_succ, List.set_cons_zero]
      refine wpAnyL_take (i := 18) (f0 := 33) (v := ?_) rfl (by decide +kernel) (by decide +kernel) (by decide +kernel) (by decide +kernel) (by decide +kernel) (fun _ _ _ h => h) (Or.inl ⟨by rfl, ?_⟩) hS2 ?_
      rotate_left
      · intro wS hS; go_simp; (try with_reducible rfl)
      simp only [Act.put, List.getElem_toArray, List.getElem_cons_succ, List.getElem_cons_zero, List.setIfInBounds_toArray, List.set_cons_succ, List.set_cons_zero]
      refine wpAnyL_take (i := 19) (f0 := 33) (v := undef) rfl (by decide +kernel) (by decide +kernel) (by decide +kernel) (by decide +kernel) (by decide +kernel) (fun _ _ _ h => h) (Or.inr ⟨by rfl, rfl⟩) hS2 ?_
      simp only [Act.put, List.getElem_toArray, List.getElem_cons_succ, List.getElem_cons_zero, List.setIfInBounds_toArray, List.set_cons_succ, List.set_cons_zero]
      refine wpAnyL_take (i := 20) (f0 := 33) (v := undef) rfl (by decide +kernel) (by decide +kernel) (by decide +kernel) (by decide +kernel) (by decide +kernel) (fun _ _ _ h => h) (Or.inr ⟨by rfl, rfl⟩) hS2 ?_
      simp only [Act.put, List.getElem_toArray, List.getElem_cons_succ, List.getElem_cons_zero, List.setIfInBounds_toArray, List.set_cons_succ, List.set_cons_zero]
      refine wpAnyL_take (i := 21) (f0 := 33) (v := undef) rfl (by decide +kernel) (by decide +kernel) (by decide +kernel) (by decide +kernel) (by decide +kernel) (fun _ _ _ h => h) (Or.inr ⟨by rfl, rfl⟩) hS2 ?_
      simp only [Act.put, List.getElem_toArray, List.getElem_cons_succ, List.getElem_cons_zero, List.setIfInBounds_toArray, List.set_cons_succ, List.set_cons_zero]
      refine wpAnyL_take (i := 22) (f0 := 33) (v := undef) rfl (by decide +kernel) (by decide +kernel) (by decide +kernel) (by decide +kernel) (by decide +kernel) (fun _ _ _ h => h) (Or.inr ⟨by rfl, rfl⟩) hS2 ?_
      simp only [Act.put, List.getElem_toArray, List.getElem_cons_succ, List.getElem_cons_zero, List.setIfInBounds_toArray, List.set_cons_succ, List.set_cons_zero]
      refine wpAnyL_take (i := 23) (f0 := 33) (v := undef) rfl (by decide +kernel) (by decide +kernel) (by decide +kernel) (by decide +kernel) (by decide +kernel) (fun _ _ _ h => h) (Or.inr ⟨by rfl, rfl⟩) hS2 ?_
      simp only [Act.put, List.getElem_toArray, List.getElem_cons_succ, List.getElem_cons_zero, List.setIfInBounds_toArray, List.set_cons_succ, List.set_cons_zero]
      refine wpAnyL_take (i := 24) (f0 := 33) (v := undef) rfl (by decide +kernel) (by decide +kernel) (by decide +kernel) (by decide +kernel) (by decide +kernel) (fun _ _ _ h => h) (Or.inr ⟨by rfl, rfl⟩) hS2 ?_
      simp only [Act.put, List.getElem_toArray, List.getElem_cons_succ, List.getElem_cons_zero, List.setIfInBounds_toArray, List.set_cons_succ, List.set_cons_zero]
      refine wpAnyL_take (i := 25) (f0 := 33) (v := undef) rfl (by decide +kernel) (by decide +kernel) (by decide +kernel) (by decide +kernel) (by decide +kernel) (fun _ _ _ h => h) (Or.inr ⟨by rfl, rfl⟩) hS2 ?_
      simp only [Act.put, List.getElem_toArray, List.getElem_cons_succ, List.getElem_cons_zero, List.setIfInBounds_toArray, List.set_cons_succ, List.set_cons_zero]
      refine wpAnyL_take (i := 26) (f0 := 33) (v := undef) rfl (by decide +kernel) (by decide +kernel) (by decide +kernel) (by decide +kernel) (by decide +kernel) (fun _ _ _ h => h) (Or.inr ⟨by rfl, rfl⟩) hS2 ?_
      simp only [Act.put, List.getElem_toArray, List.getElem_cons_succ, List.getElem_cons_zero, List.setIfInBounds_toArray, List.set_cons_succ, List.set_cons_zero]
      refine wpAnyL_take (i := 27) (f0 := 33) (v := undef) rfl (by decide +kernel) (by decide +kernel) (by decide +kernel) (by decide +kernel) (by decide +kernel) (fun _ _ _ h => h) (Or.inr ⟨by rfl, rfl⟩) hS2 ?_
      simp only [Act.put, List.getElem_toArray, List.getElem_cons_succ, List.getElem_cons_zero, List.setIfInBounds_toArray, List.set_cons_succ, List.set_cons_zero]
      refine wpAnyL_take (i := 28) (f0 := 33) (v := undef) rfl (by decide +kernel) (by decide +kernel) (by decide +kernel) (by decide +kernel) (by decide +kernel) (fun _ _ _ h => h) (Or.inr ⟨by rfl, rfl⟩) hS2 ?_
      simp only [Act.put, List.getElem_toArray, List.getElem_cons_succ, List.getElem_cons_zero, List.setIfInBounds_toArray, List.set_cons_succ, List.set_cons_zero]
      refine wpAnyL_take (i := 29) (f0 := 33) (v := ?_) rfl (by decide +kernel) (by decide +kernel) (by decide +kernel) (by decide +kernel) (by decide +kernel) (fun _ _ _ h => h) (Or.inl ⟨by rfl, ?_⟩) hS2 ?_
      rotate_left
      · intro wS hS; go_simp; (try with_reducible rfl)
      simp only [Act.put, List.getElem_toArray, List.getElem_cons_succ, List.getElem_cons_zero, List.setIfInBounds_toArray, List.set_cons_succ, List.set_cons_zero]
      refine wpAnyL_take (i := 30) (f0 := 33) (v := ?_) rfl (by decide +kernel) (by decide +kernel) (by decide +kernel) (by decide +kernel) (by decide +kernel) (fun _ _ _ h => h) (Or.inl ⟨by rfl, ?_⟩) hS2 ?_
      rotate_left
      · intro wS hS; go_simp; (try with_reducible rfl)
      simp only [Act.put, List.getElem_toArray, List.getElem_cons_succ, List.getElem_cons_zero, List.setIfInBounds_toArray, List.set_cons_succ, List.set_cons_zero]
      refine wpAnyL_done (by decide +kernel) ?_ _
      refine NoPanic.normal ?_
      go_wp2
      go_ret
      exact ⟨ret_bool E9.out, hb2⟩
end Go.Proofs.YtobhpeockinnjaaGreatDoor
/- The reference's New, Was, Days. No conditions but those that each theorem states. -/
namespace Go.Proofs.YtobhpeockinnjaaGreatDoor
open Go Go.RowKit Go.Sort Go.Maps
theorem rnew_of (key : ByteArray) (w : World) :
    Calls Tryz.prog 23 #[.string key] w fun e w' => e = .returned (.pointer (some ⟨w.heap.size, 0, none⟩)) ∧ RR w.heap.size key [] none 0 0 w' ∧ Below w.heap.size w w' := by
  have hx1 := Below.news (Below.refl w.heap.size w) (.cells #[.string key, .slice none 0 0] 91)
  have hR : RR w.heap.size key [] none 0 0 (w.alloc (.cells #[.string key, .slice none 0 0] 91)) := ⟨heap_alloc_new w _, Dys.nil _ _ _, rfl, Nat.le_refl _, Or.inl ⟨rfl, rfl⟩⟩
  go_enter Tryz.func23, Tryz.ntmps23
  go_wp2
  go_ret
  exact ⟨rfl, hR, hx1⟩
/-- What Was holds. -/
structure WR (g : Nat) (p : Pf) (A2 : Option Addr) (m2 c2 : Nat) (br : Nat) (key : ByteArray) (M : List Dy) (A : Option Addr) (n c : Nat) (X : World) : Prop where
  r1 : X.heap[g]? = some (.cells #[.int .i64 p.count, .int .i64 p.idx, .int .i64 p.it.kind, .string p.it.id, .string p.it.parent, .string p.it.number, .string p.it.north, .string p.it.south, .bool p.it.gone, .slice A2 m2 c2] 29 (0, 0))
  rr : RR br key M A n c X
  env : Env X
  pth : Strs X X.heap.size A2 p.path
theorem WR.below {g : Nat} {p : Pf} {A2 : Option Addr} {m2 c2 : Nat} {br : Nat} {key : ByteArray} {M : List Dy} {A : Option Addr} {n c : Nat} {X X' : World} (h : WR g p A2 m2 c2 br key M A n c X) (hb : Below X.heap.size X X') : WR g p A2 m2 c2 br key M A n c X' := ⟨iNext h.r1 hb, h.rr.below hb, h.env.next hb, keepS h.pth hb⟩
set_option maxRecDepth 100000 in
set_option maxHeartbeats 16000000 in
theorem rwas_of (br : Nat) (key : ByteArray) (M : List Dy) (A : Option Addr) (n c : Nat) (hn : n ≤ 1048576) (day : Int) (p : Pf) (A2 : Option Addr) (m2 c2 : Nat) (hm : p.path.length = m2) (hm2 : m2 ≤ 1048576) (hmc : m2 ≤ c2) (hps : ∀ s ∈ p.path, s.size ≤ 1048576) (hz : ∀ s ∈ leafS p.it, s.size ≤ 10000)
    (w : World) (he : Env w) (hS : Strs w w.heap.size A2 p.path) (hR : RR br key M A n c w) (E : Int) (hE : wasE M day p = E) :
    Calls Tryz.prog 27 #[.pointer (some ⟨br, 0, none⟩), .int .i64 day, .agg #[.int .i64 p.count, .int .i64 p.idx, .int .i64 p.it.kind, .string p.it.id, .string p.it.parent, .string p.it.number, .string p.it.north, .string p.it.south, .bool p.it.gone, .slice A2 m2 c2]] w fun e w' => e = .returned (.int .i64 E) ∧ Below w.heap.size w w' := by
  have hmx : Tryz.prog.follows .mixedOrders = true := by kernel_rfl
  have hx1 := Below.news (Below.refl w.heap.size w) (.cells #[.int .i64 p.count, .int .i64 p.idx, .int .i64 p.it.kind, .string p.it.id, .string p.it.parent, .string p.it.number, .string p.it.north, .string p.it.south, .bool p.it.gone, .slice A2 m2 c2] 29)
  have hS1 : WR w.heap.size p A2 m2 c2 br key M A n c (w.alloc (.cells #[.int .i64 p.count, .int .i64 p.idx, .int .i64 p.it.kind, .string p.it.id, .string p.it.parent, .string p.it.number, .string p.it.north, .string p.it.south, .bool p.it.gone, .slice A2 m2 c2] 29)) := ⟨heap_alloc_new w _, hR.below hx1, he.next hx1, keepS hS hx1⟩
  have hlen := hR.len
  have HM := hide hm; have HPS := hide hps; have HZ := hide hz; have HE := hide hE; have HL := hide hlen
  clear hm hps hz hE hS hR he hlen
  go_enter Tryz.func27, Tryz.ntmps27
  go_wp2
  go_loopw [7] (fun iv wr => ∃ k : Nat, k ≤ n ∧ iv = .int .i64 (k : Int) ∧ WR w.heap.size p A2 m2 c2 br key M A n c wr ∧ Below w.heap.size w wr ∧ Hid (∀ j x, j < k → M[j]? = some x → x.1 ≠ day)) (fun iv _ => n - (intOf iv).toNat)
  case atStart => exact ⟨0, by omega, rfl, hS1, hx1, fun j x hj => by omega⟩
  case round =>
    clear hS1 hx1
    obtain ⟨k, hk, rfl, hS, hb, HNO⟩ := hrel
    obtain ⟨q0, q1⟩ := jCells2' hS.rr.row
    by_cases hlt : k < n
    · have hkl : k < M.length := by rw [HL.out]; exact hlt
      obtain ⟨b, off, rfl⟩ := hS.rr.lis.some hkl
      have hkn : (k : Int) < (n : Int) := by omega
      have hk0 : (0 : Int) ≤ (k : Int) := by omega
      obtain ⟨y, hy⟩ : ∃ y, M[k] = y := ⟨_, rfl⟩
      obtain ⟨c0, c1, c2'⟩ := hS.rr.lis.cells hkl y hy
      have HY := hide hy
      by_cases hyd : y.1 = day
      · have hne : (y.1 != day) = false := bne_eq_false_iff_eq.2 hyd
        have hfd : foundD M day = some y.2 := foundD_at HNO.out (by rw [List.getElem?_eq_getElem hkl, hy]) hyd
        obtain ⟨C, hC⟩ : ∃ C, checkP y.2.2 p = C := ⟨_, rfl⟩
        have HW := hide (show E = if y.2.1 = p.count ∧ C = true then 0 else 21 by
          rw [← HE.out, ← hC]
          unfold wasE
          rw [hfd])
        have HC := hide hC
        clear hyd hfd hC hy
        go_upto_region 7 with (fail)
        clear hne c0 c1 c2' q0 q1
        by_cases hcc : y.2.1 = p.count
        · have hbc : (y.2.1 == p.count) = true := beq_iff_eq.2 hcc
          have HCC := hide hcc
          clear hcc
          try clear hc1
          try clear hc2
          refine wp_region_noPanic ?_
          refine wp_region_L (WR w.heap.size p A2 m2 c2 br key M (some ⟨b, off, none⟩) n c) 23 hmx ?_
          have hdr := (Below.refl wr.heap.size wr).drew
          have hS21 : (WR w.heap.size p A2 m2 c2 br key M (some ⟨b, off, none⟩) n c) wr.drew := hS.below hdr
          have hb21 := bnext hb hdr
          clear hdr hS hb
          generalize wr.drew = w21 at *
          refine wpAnyL_take (i := 0) (f0 := 25) (v := ?_) rfl (by decide +kernel) (by decide +kernel) (by decide +kernel) (by decide +kernel) (by decide +kernel) (fun _ _ _ h => h) (Or.inl ⟨by rfl, ?_⟩) hS21 ?_
          rotate_left
          · intro wS hS; go_simp; (try with_reducible rfl)
          simp only [Act.put, List.getElem_toArray, List.getElem_cons_zero, List.setIfInBounds_toArray, List.set_cons_succ, List.set_cons_zero]
          refine wpAnyL_take (i := 1) (f0 := 25) (v := ?_) rfl (by decide +kernel) (by decide +kernel) (by decide +kernel) (by decide +kernel) (by decide +kernel) (fun _ _ _ h => h) (Or.inl ⟨by rfl, ?_⟩) hS21 ?_
          rotate_left
          · intro wS hS; go_simp; (try with_reducible rfl)
          simp only [Act.put, List.getElem_toArray, List.getElem_cons_succ, List.getElem_cons_zero, List.setIfInBounds_toArray, List.set_cons_succ, List.set_cons_zero]
          refine wpAnyL_take (i := 2) (f0 := 25) (v := ?_) rfl (by decide +kernel) (by decide +kernel) (by decide +kernel) (by decide +kernel) (by decide +kernel) (fun _ _ _ h => h) (Or.inl ⟨by rfl, ?_⟩) hS21 ?_
          rotate_left
          · intro wS hS; go_simp; (try with_reducible rfl)
          simp only [Act.put, List.getElem_toArray, List.getElem_cons_succ, List.getElem_cons_zero, List.setIfInBounds_toArray, List.set_cons_succ, List.set_cons_zero]
          refine wpAnyL_take (i := 3) (f0 := 25) (v := ?_) rfl (by decide +kernel) (by decide +kernel) (by decide +kernel) (by decide +kernel) (by decide +kernel) (fun _ _ _ h => h) (Or.inl ⟨by rfl, ?_⟩) hS21 ?_
          rotate_left
          · intro wS hS; obtain ⟨q0, q1⟩ := jCells2' hS.rr.row; go_simp; (try with_reducible rfl)
          simp only [Act.put, List.getElem_toArray, List.getElem_cons_succ, List.getElem_cons_zero, List.setIfInBounds_toArray, List.set_cons_succ, List.set_cons_zero]
          refine wpAnyL_take (i := 4) (f0 := 25) (v := ?_) rfl (by decide +kernel) (by decide +kernel) (by decide +kernel) (by decide +kernel) (by decide +kernel) (fun _ _ _ h => h) (Or.inl ⟨by rfl, ?_⟩) hS21 ?_
          rotate_left
          · intro wS hS; go_simp; (try with_reducible rfl)
          simp only [Act.put, List.getElem_toArray, List.getElem_cons_succ, List.getElem_cons_zero, List.setIfInBounds_toArray, List.set_cons_succ, List.set_cons_zero]
          refine wpAnyL_take (i := 5) (f0 := 25) (v := ?_) rfl (by decide +kernel) (by decide +kernel) (by decide +kernel) (by decide +kernel) (by decide +kernel) (fun _ _ _ h => h) (Or.inl ⟨by rfl, ?_⟩) hS21 ?_
          rotate_left
          · intro wS hS; go_simp; (try with_reducible rfl)
          simp only [Act.put, List.getElem_toArray, List.getElem_cons_succ, List.getElem_cons_zero, List.setIfInBounds_toArray, List.set_cons_succ, List.set_cons_zero]
          refine wpAnyL_take (i := 6) (f0 := 25) (v := ?_) rfl (by decide +kernel) (by decide +kernel) (by decide +kernel) (by decide +kernel) (by decide +kernel) (fun _ _ _ h => h) (Or.inl ⟨by rfl, ?_⟩) hS21 ?_
          rotate_left
          · intro wS hS; go_simp; (try with_reducible rfl)
          simp only [Act.put, List.getElem_toArray, List.getElem_cons_succ, List.getElem_cons_zero, List.setIfInBounds_toArray, List.set_cons_succ, List.set_cons_zero]
          refine wpAnyL_take (i := 7) (f0 := 25) (v := ?_) rfl (by decide +kernel) (by decide +kernel) (by decide +kernel) (by decide +kernel) (by decide +kernel) (fun _ _ _ h => h) (Or.inl ⟨by rfl, ?_⟩) hS21 ?_
          rotate_left
          · intro wS hS; obtain ⟨c0, c1, c2'⟩ := hS.rr.lis.cells hkl y HY.out; go_simp; (try with_reducible rfl)
          simp only [Act.put, List.getElem_toArray, List.getElem_cons_succ, List.getElem_cons_zero, List.setIfInBounds_toArray, List.set_cons_succ, List.set_cons_zero]
          refine wpAnyL_take (i := 8) (f0 := 25) (v := ?_) rfl (by decide +kernel) (by decide +kernel) (by decide +kernel) (by decide +kernel) (by decide +kernel) (fun _ _ _ h => h) (Or.inl ⟨by rfl, ?_⟩) hS21 ?_
          rotate_left
          · intro wS hS; go_simp; (try with_reducible rfl)
          simp only [Act.put, List.getElem_toArray, List.getElem_cons_succ, List.getElem_cons_zero, List.setIfInBounds_toArray, List.set_cons_succ, List.set_cons_zero]
          refine wpAnyL_take (i := 9) (f0 := 25) (v := ?_) rfl (by decide +kernel) (by decide +kernel) (by decide +kernel) (by decide +kernel) (by decide +kernel) (fun _ _ _ h => h) (Or.inl ⟨by rfl, ?_⟩) hS21 ?_
          rotate_left
          · intro wS hS; obtain ⟨z0, z1, z2, z3, z4, z5, z6, z7, z8, z9⟩ := jCells10 hS.r1; go_simp; (try with_reducible rfl)
          simp only [Act.put, List.getElem_toArray, List.getElem_cons_succ, List.getElem_cons_zero, List.setIfInBounds_toArray, List.set_cons_succ, List.set_cons_zero]
          refine wpAnyL_take (i := 10) (f0 := 25) (v := ?_) rfl (by decide +kernel) (by decide +kernel) (by decide +kernel) (by decide +kernel) (by decide +kernel) (fun _ _ _ h => h) (Or.inl ⟨by rfl, ?_⟩) hS21 ?_
          rotate_left
          · intro wS hS; go_simp; (try with_reducible rfl)
          simp only [Act.put, List.getElem_toArray, List.getElem_cons_succ, List.getElem_cons_zero, List.setIfInBounds_toArray, List.set_cons_succ, List.set_cons_zero]
          refine wpAnyL_take (i := 11) (f0 := 25) (v := ?_) rfl (by decide +kernel) (by decide +kernel) (by decide +kernel) (by decide +kernel) (by decide +kernel) (fun _ _ _ h => h) (Or.inl ⟨by rfl, ?_⟩) hS21 ?_
          rotate_left
          · intro wS hS; go_simp; (try with_reducible rfl)
          simp only [Act.put, List.getElem_toArray, List.getElem_cons_succ, List.getElem_cons_zero, List.setIfInBounds_toArray, List.set_cons_succ, List.set_cons_zero]
          refine wpAnyL_take (i := 12) (f0 := 25) (v := ?_) rfl (by decide +kernel) (by decide +kernel) (by decide +kernel) (by decide +kernel) (by decide +kernel) (fun _ _ _ h => h) (Or.inl ⟨by rfl, ?_⟩) hS21 ?_
          rotate_left
          · intro wS hS; go_simp; (try with_reducible rfl)
          simp only [Act.put, List.getElem_toArray, List.getElem_cons_succ, List.getElem_cons_zero, List.setIfInBounds_toArray, List.set_cons_succ, List.set_cons_zero]
          refine wpAnyL_take (i := 13) (f0 := 25) (v := ?_) rfl (by decide +kernel) (by decide +kernel) (by decide +kernel) (by decide +kernel) (by decide +kernel) (fun _ _ _ h => h) (Or.inl ⟨by rfl, ?_⟩) hS21 ?_
          rotate_left
          · intro wS hS; go_simp; (try with_reducible rfl)
          simp only [Act.put, List.getElem_toArray, List.getElem_cons_succ, List.getElem_cons_zero, List.setIfInBounds_toArray, List.set_cons_succ, List.set_cons_zero]
          refine wpAnyL_take (i := 14) (f0 := 25) (v := ?_) rfl (by decide +kernel) (by decide +kernel) (by decide +kernel) (by decide +kernel) (by decide +kernel) (fun _ _ _ h => h) (Or.inl ⟨by rfl, ?_⟩) hS21 ?_
          rotate_left
          · intro wS hS; go_simp; (try with_reducible rfl)
          simp only [Act.put, List.getElem_toArray, List.getElem_cons_succ, List.getElem_cons_zero, List.setIfInBounds_toArray, List.set_cons_succ, List.set_cons_zero]
          refine wpAnyL_take (i := 15) (f0 := 25) (v := ?_) rfl (by decide +kernel) (by decide +kernel) (by decide +kernel) (by decide +kernel) (by decide +kernel) (fun _ _ _ h => h) (Or.inl ⟨by rfl, ?_⟩) hS21 ?_
          rotate_left
          · intro wS hS; obtain ⟨q0, q1⟩ := jCells2' hS.rr.row; go_simp; (try with_reducible rfl)
          simp only [Act.put, List.getElem_toArray, List.getElem_cons_succ, List.getElem_cons_zero, List.setIfInBounds_toArray, List.set_cons_succ, List.set_cons_zero]
          refine wpAnyL_take (i := 16) (f0 := 25) (v := ?_) rfl (by decide +kernel) (by decide +kernel) (by decide +kernel) (by decide +kernel) (by decide +kernel) (fun _ _ _ h => h) (Or.inl ⟨by rfl, ?_⟩) hS21 ?_
          rotate_left
          · intro wS hS; go_simp; (try with_reducible rfl)
          simp only [Act.put, List.getElem_toArray, List.getElem_cons_succ, List.getElem_cons_zero, List.setIfInBounds_toArray, List.set_cons_succ, List.set_cons_zero]
          refine wpAnyL_take (i := 17) (f0 := 25) (v := ?_) rfl (by decide +kernel) (by decide +kernel) (by decide +kernel) (by decide +kernel) (by decide +kernel) (fun _ _ _ h => h) (Or.inl ⟨by rfl, ?_⟩) hS21 ?_
          rotate_left
          · intro wS hS; go_simp; (try with_reducible rfl)
          simp only [Act.put, List.getElem_toArray, List.getElem_cons_succ, List.getElem_cons_zero, List.setIfInBounds_toArray, List.set_cons_succ, List.set_cons_zero]
          refine wpAnyL_take (i := 18) (f0 := 25) (v := ?_) rfl (by decide +kernel) (by decide +kernel) (by decide +kernel) (by decide +kernel) (by decide +kernel) (fun _ _ _ h => h) (Or.inl ⟨by rfl, ?_⟩) hS21 ?_
          rotate_left
          · intro wS hS; go_simp; (try with_reducible rfl)
          simp only [Act.put, List.getElem_toArray, List.getElem_cons_succ, List.getElem_cons_zero, List.setIfInBounds_toArray, List.set_cons_succ, List.set_cons_zero]
          refine wpAnyL_take (i := 19) (f0 := 25) (v := ?_) rfl (by decide +kernel) (by decide +kernel) (by decide +kernel) (by decide +kernel) (by decide +kernel) (fun _ _ _ h => h) (Or.inl ⟨by rfl, ?_⟩) hS21 ?_
          rotate_left
          · intro wS hS; obtain ⟨c0, c1, c2'⟩ := hS.rr.lis.cells hkl y HY.out; go_simp; (try with_reducible rfl)
          simp only [Act.put, List.getElem_toArray, List.getElem_cons_succ, List.getElem_cons_zero, List.setIfInBounds_toArray, List.set_cons_succ, List.set_cons_zero]
          refine wpAnyL_take (i := 20) (f0 := 25) (v := ?_) rfl (by decide +kernel) (by decide +kernel) (by decide +kernel) (by decide +kernel) (by decide +kernel) (fun _ _ _ h => h) (Or.inl ⟨by rfl, ?_⟩) hS21 ?_
          rotate_left
          · intro wS hS; obtain ⟨z0, z1, z2, z3, z4, z5, z6, z7, z8, z9⟩ := jCells10 hS.r1; go_simp; (try with_reducible rfl)
          simp only [Act.put, List.getElem_toArray, List.getElem_cons_succ, List.getElem_cons_zero, List.setIfInBounds_toArray, List.set_cons_succ, List.set_cons_zero]
          refine wpAnyL_one (i := 21) (by decide +kernel) (by rfl) (fun K hK => ?_)
          rw [if_pos (by rfl)]
          go_simp
          refine (rpcheck_of y.2.2 p A2 m2 c2 HM.out hm2 hmc HPS.out HZ.out w21 hS21.env hS21.pth C HC.out).mono ?_
          rintro e w22 ⟨rfl, hx22⟩
          have hS22 : (WR w.heap.size p A2 m2 c2 br key M (some ⟨b, off, none⟩) n c) w22 := hS21.below hx22
          have hb22 := bnext hb21 hx22
          refine hK.out _ _ (Or.inr hS22) ?_
          clear hK K hS21 hb21 hx22
          try simp only [Act.put, List.getElem_toArray, List.getElem_cons_succ, List.getElem_cons_zero, List.setIfInBounds_toArray, List.set_cons_succ, List.set_cons_zero]
          refine wpAnyL_take (i := 22) (f0 := 25) (v := ?_) rfl (by decide +kernel) (by decide +kernel) (by decide +kernel) (by decide +kernel) (by decide +kernel) (fun _ _ _ h => h) (Or.inl ⟨by rfl, ?_⟩) hS22 ?_
          rotate_left
          · intro wS hS; go_simp; (try with_reducible rfl)
          simp only [Act.put, List.getElem_toArray, List.getElem_cons_succ, List.getElem_cons_zero, List.setIfInBounds_toArray, List.set_cons_succ, List.set_cons_zero]
          refine wpAnyL_done (by decide +kernel) ?_ _
          refine NoPanic.normal ?_
          cases C with
          | true =>
            obtain rfl : E = 0 := by rw [HW.out, if_pos ⟨HCC.out, rfl⟩]
            go_wp2
            go_ret
            exact ⟨rfl, hb22⟩
          | false =>
            obtain rfl : E = 21 := by rw [HW.out, if_neg fun e => by cases e.2]
            go_wp2
            go_ret
            exact ⟨rfl, hb22⟩
        · have hbc : (y.2.1 == p.count) = false := beq_eq_false_iff_ne.2 hcc
          obtain rfl : E = 21 := by rw [HW.out, if_neg fun e => hcc e.1]
          clear hcc
          try clear hc1
          try clear hc2
          refine wp_region_noPanic ?_
          refine wp_region_L (WR w.heap.size p A2 m2 c2 br key M (some ⟨b, off, none⟩) n c) 23 hmx ?_
          have hdr := (Below.refl wr.heap.size wr).drew
          have hS41 : (WR w.heap.size p A2 m2 c2 br key M (some ⟨b, off, none⟩) n c) wr.drew := hS.below hdr
          have hb41 := bnext hb hdr
          clear hdr hS hb
          generalize wr.drew = w41 at *
          refine wpAnyL_take (i := 0) (f0 := 25) (v := ?_) rfl (by decide +kernel) (by decide +kernel) (by decide +kernel) (by decide +kernel) (by decide +kernel) (fun _ _ _ h => h) (Or.inl ⟨by rfl, ?_⟩) hS41 ?_
          rotate_left
          · intro wS hS; go_simp; (try with_reducible rfl)
          simp only [Act.put, List.getElem_toArray, List.getElem_cons_zero, List.setIfInBounds_toArray, List.set_cons_succ, List.set_cons_zero]
          refine wpAnyL_take (i := 1) (f0 := 25) (v := ?_) rfl (by decide +kernel) (by decide +kernel) (by decide +kernel) (by decide +kernel) (by decide +kernel) (fun _ _ _ h => h) (Or.inl ⟨by rfl, ?_⟩) hS41 ?_
          rotate_left
          · intro wS hS; go_simp; (try with_reducible rfl)
          simp only [Act.put, List.getElem_toArray, List.getElem_cons_succ, List.getElem_cons_zero, List.setIfInBounds_toArray, List.set_cons_succ, List.set_cons_zero]
          refine wpAnyL_take (i := 2) (f0 := 25) (v := ?_) rfl (by decide +kernel) (by decide +kernel) (by decide +kernel) (by decide +kernel) (by decide +kernel) (fun _ _ _ h => h) (Or.inl ⟨by rfl, ?_⟩) hS41 ?_
          rotate_left
          · intro wS hS; go_simp; (try with_reducible rfl)
          simp only [Act.put, List.getElem_toArray, List.getElem_cons_succ, List.getElem_cons_zero, List.setIfInBounds_toArray, List.set_cons_succ, List.set_cons_zero]
          refine wpAnyL_take (i := 3) (f0 := 25) (v := ?_) rfl (by decide +kernel) (by decide +kernel) (by decide +kernel) (by decide +kernel) (by decide +kernel) (fun _ _ _ h => h) (Or.inl ⟨by rfl, ?_⟩) hS41 ?_
          rotate_left
          · intro wS hS; obtain ⟨q0, q1⟩ := jCells2' hS.rr.row; go_simp; (try with_reducible rfl)
          simp only [Act.put, List.getElem_toArray, List.getElem_cons_succ, List.getElem_cons_zero, List.setIfInBounds_toArray, List.set_cons_succ, List.set_cons_zero]
          refine wpAnyL_take (i := 4) (f0 := 25) (v := ?_) rfl (by decide +kernel) (by decide +kernel) (by decide +kernel) (by decide +kernel) (by decide +kernel) (fun _ _ _ h => h) (Or.inl ⟨by rfl, ?_⟩) hS41 ?_
          rotate_left
          · intro wS hS; go_simp; (try with_reducible rfl)
          simp only [Act.put, List.getElem_toArray, List.getElem_cons_succ, List.getElem_cons_zero, List.setIfInBounds_toArray, List.set_cons_succ, List.set_cons_zero]
          refine wpAnyL_take (i := 5) (f0 := 25) (v := ?_) rfl (by decide +kernel) (by decide +kernel) (by decide +kernel) (by decide +kernel) (by decide +kernel) (fun _ _ _ h => h) (Or.inl ⟨by rfl, ?_⟩) hS41 ?_
          rotate_left
          · intro wS hS; go_simp; (try with_reducible rfl)
          simp only [Act.put, List.getElem_toArray, List.getElem_cons_succ, List.getElem_cons_zero, List.setIfInBounds_toArray, List.set_cons_succ, List.set_cons_zero]
          refine wpAnyL_take (i := 6) (f0 := 25) (v := ?_) rfl (by decide +kernel) (by decide +kernel) (by decide +kernel) (by decide +kernel) (by decide +kernel) (fun _ _ _ h => h) (Or.inl ⟨by rfl, ?_⟩) hS41 ?_
          rotate_left
          · intro wS hS; go_simp; (try with_reducible rfl)
          simp only [Act.put, List.getElem_toArray, List.getElem_cons_succ, List.getElem_cons_zero, List.setIfInBounds_toArray, List.set_cons_succ, List.set_cons_zero]
          refine wpAnyL_take (i := 7) (f0 := 25) (v := ?_) rfl (by decide +kernel) (by decide +kernel) (by decide +kernel) (by decide +kernel) (by decide +kernel) (fun _ _ _ h => h) (Or.inl ⟨by rfl, ?_⟩) hS41 ?_
          rotate_left
          · intro wS hS; obtain ⟨c0, c1, c2'⟩ := hS.rr.lis.cells hkl y HY.out; go_simp; (try with_reducible rfl)
          simp only [Act.put, List.getElem_toArray, List.getElem_cons_succ, List.getElem_cons_zero, List.setIfInBounds_toArray, List.set_cons_succ, List.set_cons_zero]
          refine wpAnyL_take (i := 8) (f0 := 25) (v := ?_) rfl (by decide +kernel) (by decide +kernel) (by decide +kernel) (by decide +kernel) (by decide +kernel) (fun _ _ _ h => h) (Or.inl ⟨by rfl, ?_⟩) hS41 ?_
          rotate_left
          · intro wS hS; go_simp; (try with_reducible rfl)
          simp only [Act.put, List.getElem_toArray, List.getElem_cons_succ, List.getElem_cons_zero, List.setIfInBounds_toArray, List.set_cons_succ, List.set_cons_zero]
          refine wpAnyL_take (i := 9) (f0 := 25) (v := ?_) rfl (by decide +kernel) (by decide +kernel) (by decide +kernel) (by decide +kernel) (by decide +kernel) (fun _ _ _ h => h) (Or.inl ⟨by rfl, ?_⟩) hS41 ?_
          rotate_left
          · intro wS hS; obtain ⟨z0, z1, z2, z3, z4, z5, z6, z7, z8, z9⟩ := jCells10 hS.r1; go_simp; (try with_reducible rfl)
          simp only [Act.put, List.getElem_toArray, List.getElem_cons_succ, List.getElem_cons_zero, List.setIfInBounds_toArray, List.set_cons_succ, List.set_cons_zero]
          refine wpAnyL_take (i := 10) (f0 := 25) (v := ?_) rfl (by decide +kernel) (by decide +kernel) (by decide +kernel) (by decide +kernel) (by decide +kernel) (fun _ _ _ h => h) (Or.inl ⟨by rfl, ?_⟩) hS41 ?_
          rotate_left
          · intro wS hS; go_simp; (try with_reducible rfl)
          simp only [Act.put, List.getElem_toArray, List.getElem_cons_succ, List.getElem_cons_zero, List.setIfInBounds_toArray, List.set_cons_succ, List.set_cons_zero]
          refine wpAnyL_take (i := 11) (f0 := 25) (v := ?_) rfl (by decide +kernel) (by decide +kernel) (by decide +kernel) (by decide +kernel) (by decide +kernel) (fun _ _ _ h => h) (Or.inl ⟨by rfl, ?_⟩) hS41 ?_
          rotate_left
          · intro wS hS; go_simp; (try with_reducible rfl)
          simp only [Act.put, List.getElem_toArray, List.getElem_cons_succ, List.getElem_cons_zero, List.setIfInBounds_toArray, List.set_cons_succ, List.set_cons_zero]
          refine wpAnyL_take (i := 12) (f0 := 25) (v := undef) rfl (by decide +kernel) (by decide +kernel) (by decide +kernel) (by decide +kernel) (by decide +kernel) (fun _ _ _ h => h) (Or.inr ⟨by rfl, rfl⟩) hS41 ?_
          simp only [Act.put, List.getElem_toArray, List.getElem_cons_succ, List.getElem_cons_zero, List.setIfInBounds_toArray, List.set_cons_succ, List.set_cons_zero]
          refine wpAnyL_take (i := 13) (f0 := 25) (v := undef) rfl (by decide +kernel) (by decide +kernel) (by decide +kernel) (by decide +kernel) (by decide +kernel) (fun _ _ _ h => h) (Or.inr ⟨by rfl, rfl⟩) hS41 ?_
          simp only [Act.put, List.getElem_toArray, List.getElem_cons_succ, List.getElem_cons_zero, List.setIfInBounds_toArray, List.set_cons_succ, List.set_cons_zero]
          refine wpAnyL_take (i := 14) (f0 := 25) (v := undef) rfl (by decide +kernel) (by decide +kernel) (by decide +kernel) (by decide +kernel) (by decide +kernel) (fun _ _ _ h => h) (Or.inr ⟨by rfl, rfl⟩) hS41 ?_
          simp only [Act.put, List.getElem_toArray, List.getElem_cons_succ, List.getElem_cons_zero, List.setIfInBounds_toArray, List.set_cons_succ, List.set_cons_zero]
          refine wpAnyL_take (i := 15) (f0 := 25) (v := undef) rfl (by decide +kernel) (by decide +kernel) (by decide +kernel) (by decide +kernel) (by decide +kernel) (fun _ _ _ h => h) (Or.inr ⟨by rfl, rfl⟩) hS41 ?_
          simp only [Act.put, List.getElem_toArray, List.getElem_cons_succ, List.getElem_cons_zero, List.setIfInBounds_toArray, List.set_cons_succ, List.set_cons_zero]
          refine wpAnyL_take (i := 16) (f0 := 25) (v := undef) rfl (by decide +kernel) (by decide +kernel) (by decide +kernel) (by decide +kernel) (by decide +kernel) (fun _ _ _ h => h) (Or.inr ⟨by rfl, rfl⟩) hS41 ?_
          simp only [Act.put, List.getElem_toArray, List.getElem_cons_succ, List.getElem_cons_zero, List.setIfInBounds_toArray, List.set_cons_succ, List.set_cons_zero]
          refine wpAnyL_take (i := 17) (f0 := 25) (v := undef) rfl (by decide +kernel) (by decide +kernel) (by decide +kernel) (by decide +kernel) (by decide +kernel) (fun _ _ _ h => h) (Or.inr ⟨by rfl, rfl⟩) hS41 ?_
          simp only [Act.put, List.getElem_toArray, List.getElem_cons_succ, List.getElem_cons_zero, List.setIfInBounds_toArray, List.set_cons_succ, List.set_cons_zero]
          refine wpAnyL_take (i := 18) (f0 := 25) (v := undef) rfl (by decide +kernel) (by decide +kernel) (by decide +kernel) (by decide +kernel) (by decide +kernel) (fun _ _ _ h => h) (Or.inr ⟨by rfl, rfl⟩) hS41 ?_
          simp only [Act.put, List.getElem_toArray, List.getElem_cons_succ, List.getElem_cons_zero, List.setIfInBounds_toArray, List.set_cons_succ, List.set_cons_zero]
          refine wpAnyL_take (i := 19) (f0 := 25) (v := undef) rfl (by decide +kernel) (by decide +kernel) (by decide +kernel) (by decide +kernel) (by decide +kernel) (fun _ _ _ h => h) (Or.inr ⟨by rfl, rfl⟩) hS41 ?_
          simp only [Act.put, List.getElem_toArray, List.getElem_cons_succ, List.getElem_cons_zero, List.setIfInBounds_toArray, List.set_cons_succ, List.set_cons_zero]
          refine wpAnyL_take (i := 20) (f0 := 25) (v := undef) rfl (by decide +kernel) (by decide +kernel) (by decide +kernel) (by decide +kernel) (by decide +kernel) (fun _ _ _ h => h) (Or.inr ⟨by rfl, rfl⟩) hS41 ?_
          simp only [Act.put, List.getElem_toArray, List.getElem_cons_succ, List.getElem_cons_zero, List.setIfInBounds_toArray, List.set_cons_succ, List.set_cons_zero]
          refine wpAnyL_take (i := 21) (f0 := 25) (v := undef) rfl (by decide +kernel) (by decide +kernel) (by decide +kernel) (by decide +kernel) (by decide +kernel) (fun _ _ _ h => h) (Or.inr ⟨by rfl, rfl⟩) hS41 ?_
          simp only [Act.put, List.getElem_toArray, List.getElem_cons_succ, List.getElem_cons_zero, List.setIfInBounds_toArray, List.set_cons_succ, List.set_cons_zero]
          refine wpAnyL_take (i := 22) (f0 := 25) (v := ?_) rfl (by decide +kernel) (by decide +kernel) (by decide +kernel) (by decide +kernel) (by decide +kernel) (fun _ _ _ h => h) (Or.inl ⟨by rfl, ?_⟩) hS41 ?_
          rotate_left
          · intro wS hS; go_simp; (try with_reducible rfl)
          simp only [Act.put, List.getElem_toArray, List.getElem_cons_succ, List.getElem_cons_zero, List.setIfInBounds_toArray, List.set_cons_succ, List.set_cons_zero]
          refine wpAnyL_done (by decide +kernel) ?_ _
          refine NoPanic.normal ?_
          go_wp2
          go_ret
          exact ⟨rfl, hb41⟩
      · have hne : (y.1 != day) = true := bne_iff_ne.2 hyd
        have HYD := hide hyd
        clear hyd hy
        go_wp2
        go_roundw
        case rel => exact ⟨k + 1, by omega, by go_num, hS, hb, fun j x hj hx => by
          by_cases e : j = k
          · subst e
            rw [List.getElem?_eq_getElem hkl, HY.out] at hx
            cases hx
            exact HYD.out
          · exact HNO.out j x (by omega) hx⟩
        case measure => simp [intOf]; omega
    · obtain rfl : n = k := by omega
      obtain rfl : E = 11 := by
        rw [← HE.out]
        unfold wasE
        rw [foundD_all fun j x hx => HNO.out j x (by rw [← HL.out]; exact (List.getElem?_eq_some_iff.1 hx).1) hx]
      go_wp2
      go_ret
      exact ⟨rfl, hb⟩
theorem zs_own {w : World} {B : Nat} {v : Value} {l : List Int} (h : OwnV w B 3 v (l.map (Value.int .i64))) : ∃ A c, v = .slice A l.length c ∧ Zs w w.heap.size A l := by
  have hlen : (l.map (Value.int .i64)).length = l.length := List.length_map ..
  unfold OwnV at h
  rw [hlen] at h
  rcases h.2 with ⟨rfl, h0⟩ | ⟨g, cap, cur, rfl, hB, hg, hc, _, hsz, hx⟩
  · obtain rfl := List.length_eq_zero_iff.1 h0
    exact ⟨none, 0, rfl, Zs.nil _ _ _⟩
  · refine ⟨some ⟨g, 0, none⟩, cap, rfl, ⟨fun _ => ⟨g, 0, rfl, lt_of_block hg, fun j s hj => ?_⟩⟩⟩
    rw [cell_of_row _ _ _ _ _ (0, 0) hg, Nat.zero_add, ← Array.getElem?_toList]
    have h1 : (cur.toList.take (l.length * 1))[j]? = some (.int .i64 s) := by
      rw [hx, List.getElem?_map, hj]; rfl
    rw [List.getElem?_take] at h1
    split at h1
    · exact h1
    · cases h1
set_option maxRecDepth 100000 in
set_option maxHeartbeats 16000000 in
theorem rdays_of (br : Nat) (key : ByteArray) (M : List Dy) (A : Option Addr) (n c : Nat) (hn : n ≤ 1048576) (w : World) (hR : RR br key M A n c w) :
    Calls Tryz.prog 30 #[.pointer (some ⟨br, 0, none⟩)] w fun e w' => (∃ A9 c9, e = .returned (.slice A9 M.length c9) ∧ Zs w' w'.heap.size A9 (M.map fun y => y.1)) ∧ Below w.heap.size w w' := by
  have HL := hide hR.len
  have hbr := Below.refl w.heap.size w
  have HRB := hide (fun X (hX : Below w.heap.size w X) => hR.below hX)
  obtain ⟨q0, q1⟩ := jCells2' hR.row
  go_enter Tryz.func30, Tryz.ntmps30
  go_wp2
  go_loopw [3, 4] (fun ov iv wr => ∃ k : Nat, k ≤ n ∧ iv = .int .i64 (k : Int) ∧ Below w.heap.size w wr ∧ OwnV wr w.heap.size 3 ov ((((M.take k).map fun y => y.1)).map (Value.int .i64))) (fun _ iv _ => n - (intOf iv).toNat)
  case atStart => exact ⟨0, by omega, rfl, hbr, OwnV.nil _ _ _⟩
  case round =>
    clear hR hbr q0 q1
    obtain ⟨k, hk, rfl, hb, hO⟩ := hrel
    have hR := HRB.out _ hb
    obtain ⟨q0, q1⟩ := jCells2' hR.row
    by_cases hlt : k < n
    · have hkl : k < M.length := by rw [HL.out]; exact hlt
      obtain ⟨b, off, rfl⟩ := hR.lis.some hkl
      have hkn : (k : Int) < (n : Int) := by omega
      have hk0 : (0 : Int) ≤ (k : Int) := by omega
      obtain ⟨y, hy⟩ : ∃ y, M[k] = y := ⟨_, rfl⟩
      obtain ⟨c0, c1, c2'⟩ := hR.lis.cells hkl y hy
      have htk : ((M.take (k + 1)).map fun y => y.1).map (Value.int .i64) = ((M.take k).map fun y => y.1).map (Value.int .i64) ++ [.int .i64 y.1] := by
        rw [List.take_succ_eq_append_getElem hkl, hy, List.map_append, List.map_append]; rfl
      have HTK := hide htk; have HB := hide hb
      clear htk hy hb hR
      go_wp2_with (at_builtin; refine step_i wr rfl (.tmp 17) (.tmp 26) rfl y.1 w.heap.size _ _ rfl hO rfl (by rw [List.length_map, List.length_map, List.length_take]; omega) HB.out.size ?_; intro v9 w9 hO9 hx9)
      have hb9 := HB.out.trans hx9
      clear c0 c1 c2' q0 q1 hO
      go_wp2
      go_roundw
      case rel => exact ⟨k + 1, by omega, by go_num, hb9, by rw [HTK.out]; exact hO9⟩
      case measure => simp [intOf]; omega
    · obtain rfl : n = k := by omega
      rw [← HL.out, List.take_length] at hO
      obtain ⟨A9, c9, rfl, hz⟩ := zs_own hO
      go_wp2
      go_ret
      refine ⟨⟨A9, c9, ?_, hz⟩, hb⟩
      rw [List.length_map]
      rfl
end Go.Proofs.YtobhpeockinnjaaGreatDoor
namespace Go.Proofs.YtobhpeockinnjaaGreatDoor
open Go Go.RowKit
set_option maxHeartbeats 1000000 in
theorem rchain_any (s : ByteArray) (hs : s.size ≤ 4611686018427387000) (n : Int) (w : World) :
    Calls Tryz.prog 106 #[.string s, .int .i64 n] w fun e w' => e = .returned (.string (Dg.chainB s (min n 1000).toNat)) ∧ w = w' := by
  have hN2 : (min n 1000).toNat ≤ 1000 := by omega
  have hN : ∀ k : Nat, ((k : Int) < min n 1000) ↔ k < (min n 1000).toNat := by omega
  generalize hM : (min n 1000).toNat = N at *
  clear hM
  go_enter Tryz.func106, Tryz.ntmps106
  have HN := hide hN; clear hN
  go_wp2
  go_loop [0, 5] (fun v i => ∃ k : Nat, k ≤ N ∧ i = .int .i64 k ∧ v = .string (Dg.chainB s k)) (fun _ i => N - (intOf i).toNat)
  case atStart => exact ⟨0, by omega, rfl, by rw [Dg.chainB_zero]⟩
  case round =>
    obtain ⟨k, hk, rfl, rfl⟩ := hrel
    have hz := Dg.chainB_le s k
    by_cases hlt : k < N
    · have hlt2 := (HN.out k).2 hlt
      go_wp2_with fail
      refine (rsum_any _ (by omega) _).mono ?_
      rintro e w' ⟨rfl, rfl⟩
      go_wp2
      go_round
      case rel => exact ⟨k + 1, by omega, by go_num, rfl⟩
      case measure => simp [intOf]; omega
    · obtain rfl : k = N := by omega
      have hlt2 : ¬ (k : Int) < min n 1000 := fun h => hlt ((HN.out k).1 h)
      go_wp2
      go_ret
      exact ⟨rfl, rfl⟩
end Go.Proofs.YtobhpeockinnjaaGreatDoor
/- Start, Key, Keys, Public of the reference (seals). No conditions but those that each theorem states. -/
namespace Go.Proofs.YtobhpeockinnjaaGreatDoor
open Go Go.RowKit Go.Sort
theorem rchain_of (s : ByteArray) (n : Int) (k : Nat) (hn : n = k) (C : ByteArray) (hC : Dg.chainB s k = C) (hs : s.size ≤ 1048576) (hk : k ≤ 1000) (w : World) :
    Calls Tryz.prog 106 #[.string s, .int .i64 n] w fun e w' => e = .returned (.string C) ∧ w = w' := by
  subst hn; subst hC
  have e : (min (k : Int) 1000).toNat = k := by omega
  have := rchain_any s (by omega) (k : Int) w
  rw [e] at this
  exact this
end Go.Proofs.YtobhpeockinnjaaGreatDoor
/- Made of the reference: the plain part. -/
namespace Go.Proofs.YtobhpeockinnjaaGreatDoor
open Go Go.RowKit Go.Sort
end Go.Proofs.YtobhpeockinnjaaGreatDoor
/- Made of the reference, walked. -/
namespace Go.Proofs.YtobhpeockinnjaaGreatDoor
open Go Go.RowKit Go.Sort
theorem sR_snoc (v : Value) (l : List ByteArray) (x : ByteArray) : (v, 9, l.map Value.string ++ [Value.string x]) = sR v (l ++ [x]) := by unfold sR; rw [List.map_append]; rfl
end Go.Proofs.YtobhpeockinnjaaGreatDoor
/- What the laws on seals ask: short; heights and indices. -/
namespace Go.Proofs.YtobhpeockinnjaaGreatDoor
open Go Go.RowKit Go.Sort
theorem row_next {w w' : World} {g : Nat} {o : Obj} (h : w.heap[g]? = some o) (hb : Below w.heap.size w w') : w'.heap[g]? = some o := (hb.block g (Array.getElem?_eq_some_iff.1 h).1).trans h
end Go.Proofs.YtobhpeockinnjaaGreatDoor
/- Checked of the reference: the plain part. -/
namespace Go.Proofs.YtobhpeockinnjaaGreatDoor
open Go Go.RowKit Go.Sort
def enTo (m : ByteArray) (sig : List ByteArray) (k : Nat) : List ByteArray := (List.range k).map fun k => Dg.chainB (sig.getD k ⟨#[]⟩) (15 - Dg.dig m k)
theorem enTo_succ (m : ByteArray) (sig : List ByteArray) (k : Nat) : enTo m sig (k + 1) = enTo m sig k ++ [Dg.chainB (sig.getD k ⟨#[]⟩) (15 - Dg.dig m k)] := by unfold enTo; rw [List.range_succ, List.map_append]; rfl
theorem enTo_len (m : ByteArray) (sig : List ByteArray) (k : Nat) : (enTo m sig k).length = k := by rw [enTo, List.length_map, List.length_range]
theorem isB_ends (m : ByteArray) (sig : List ByteArray) (h : ∀ s ∈ sig, s.size = 16) : ∀ s ∈ Dg.endsB m sig, s.size ≤ 32 := fun x hx => by
  unfold Dg.endsB at hx
  obtain ⟨k, _, rfl⟩ := List.mem_map.1 hx
  have := Dg.chainB_le (sig.getD k ⟨#[]⟩) (15 - Dg.dig m k)
  have h2 : (sig.getD k ⟨#[]⟩).size ≤ 16 := by
    rw [List.getD_eq_getElem?_getD]
    cases hg : sig[k]? with
    | none => decide
    | some s => exact Nat.le_of_eq (h s (List.mem_of_getElem? hg))
  omega
theorem int_cell {W : World} {B g n c : Nat} {T : TypeId} {xs : List Value} {k : Nat} {u : Value} (h : OwnV W B T (.slice (some ⟨g, 0, none⟩) n c) xs) (hu : xs[k]? = some u) : W.cell? ⟨g, k, none⟩ = some u := by
  have hk := (List.getElem?_eq_some_iff.1 hu).1
  rcases h.2 with ⟨h0, _⟩ | ⟨g', cap, cur, h0, _, hgb, _, _, _, htk⟩
  · injection h0 with h1 _ _; cases h1
  · injection h0 with h1 _ _
    injection h1 with h1
    injection h1 with h1 _ _
    subst h1
    rw [cell_of_row _ _ _ _ _ (0, 0) hgb, ← Array.getElem?_toList]
    have h5 : (cur.toList.take (xs.length * 1))[k]? = xs[k]? := by rw [htk]
    rw [List.getElem?_take, if_pos (by omega)] at h5
    rw [h5, hu]
end Go.Proofs.YtobhpeockinnjaaGreatDoor
/- Rows of the call's own: literals, a struct's block as a row, stores into a row. No conditions. -/
namespace Go.Proofs.YtobhpeockinnjaaGreatDoor
open Go Go.RowKit Go.Sort
section
variable {P : Program} {ops : Array Oper} {Q : Exit → Act → World → Prop} {md : Region.Mode} {S : World → Prop} {k : Nat}
end
/-- A literal's block, laid now, as a row. -/
theorem OwnL.lit {W : World} {B : Nat} {rs : List (Value × TypeId × List Value)} (h : OwnL W B rs) (hB : B ≤ W.heap.size) (cs : Array Value) (T : TypeId) (n : Nat) (hn : cs.size = n) (hm : n ≤ maxLen) : OwnL (W.alloc (.cells cs T)) B ((.slice (some ⟨W.heap.size, 0, none⟩) n n, T, cs.toList) :: rs) := by
  subst hn
  refine h.made hB ((Below.refl _ _).alloc (Nat.le_refl _) _) ?_
  exact ⟨(Nat.mul_one _).symm, Or.inr ⟨W.heap.size, cs.size, cs, by rw [Array.length_toList], Nat.le_refl _, heap_alloc_new W _, by rw [Array.length_toList]; exact Nat.le_refl _, hm, (Nat.mul_one _).symm, by rw [Nat.mul_one, List.take_length]⟩⟩
theorem OwnV.row {W : World} {B g n : Nat} {T : TypeId} {xs : List Value} (h : OwnV W B T (.slice (some ⟨g, 0, none⟩) n n) xs) : W.heap[g]? = some (.cells xs.toArray T (0, 0)) := by
  rcases h.2 with ⟨h0, _⟩ | ⟨g', cap, cur, h0, _, hgb, _, _, hcz, htk⟩
  · injection h0 with h1 _ _; cases h1
  · injection h0 with h1 h2 h3
    injection h1 with h1
    injection h1 with h1 _ _
    subst h1
    have h4 : cur.toList = xs := by
      rw [← htk, List.take_of_length_le]
      rw [Array.length_toList, hcz, ← h3, h2]
      exact Nat.le_refl _
    rw [hgb, ← h4]
theorem OwnV.set {w : World} {B g n cap : Nat} {T : TypeId} {xs : List Value} (h : OwnV w B T (.slice (some ⟨g, 0, none⟩) n cap) xs) (j : Nat) (u : Value) : OwnV (w.setCell ⟨g, j, none⟩ u) B T (.slice (some ⟨g, 0, none⟩) n cap) (xs.set j u) := by
  have hn : xs.length = n := by
    obtain ⟨_, _, h2⟩ := OwnV.form h
    injection h2 with _ h3 _
    exact h3.symm
  unfold OwnV at *
  rw [List.length_set]
  rw [hn] at h ⊢
  exact (h.stored j _).1
/-- A store into the first row. -/
theorem OwnL.set {W : World} {B g n c : Nat} {T : TypeId} {xs : List Value} {rs : List (Value × TypeId × List Value)} (h : OwnL W B ((.slice (some ⟨g, 0, none⟩) n c, T, xs) :: rs)) (j : Nat) (u : Value) : OwnL (W.setCell ⟨g, j, none⟩ u) B ((.slice (some ⟨g, 0, none⟩) n c, T, xs.set j u) :: rs) := by
  obtain ⟨h1, h2⟩ := List.pairwise_cons.1 h.apart
  refine ⟨fun r hr => ?_, List.pairwise_cons.2 ⟨fun b hb => h1 b hb, h2⟩⟩
  rcases List.mem_cons.1 hr with rfl | hr
  · exact h.head.set j u
  · exact ownsRow_setCell_other (h.own r (List.mem_cons_of_mem _ hr)) (h1 r hr g rfl) u
end Go.Proofs.YtobhpeockinnjaaGreatDoor
/- Sign of the reference (seals). No conditions but those that each theorem states. -/
namespace Go.Proofs.YtobhpeockinnjaaGreatDoor
open Go Go.RowKit Go.Sort
end Go.Proofs.YtobhpeockinnjaaGreatDoor
/- Verify of the reference (seals). No conditions but those that each theorem states. -/
namespace Go.Proofs.YtobhpeockinnjaaGreatDoor
open Go Go.RowKit Go.Sort
theorem rpower_same (n : Nat) (hn : n ≤ 60) (R : Nat) (hR : 2 ^ n = R) (w : World) :
    Calls Tryz.prog 104 #[.int .i64 n] w fun e w' => e = .returned (.int .i64 R) ∧ w' = w := (rpower_any n hn R hR w).mono fun _ _ ⟨h1, h2⟩ => ⟨h1, h2.symm⟩
theorem ris_same (s : ByteArray) (r : Bool) (hr : Dg.isB s = r) (hs : s.size ≤ 4611686018427387904) (w : World) :
    Calls Tryz.prog 59 #[.string s] w fun e w' => e = .returned (.bool r) ∧ w = w' := by
  subst hr; exact ris_any s hs w
theorem verifyB_main (p m : ByteArray) (i : Int) (sig path : List ByteArray) (n : Nat) (h1 : sig.length = 18) (h2 : path.length ≤ 8) (h3 : 0 ≤ i) (hn : 2 ^ path.length = n) (h4 : i < (n : Int)) :
    verifyB p m i sig path = ((allDig sig && allDig path) && checkB p (n : Int) i (Dg.listB (Dg.endsB m sig)) path) := by
  subst hn
  unfold verifyB
  rw [decide_eq_true h1, decide_eq_true h2, decide_eq_true h3, decide_eq_true h4]
  simp
theorem allDig_take (l : List ByteArray) (k : Nat) (hk : k < l.length) (h : allDig (l.take k) = true) (hx : Dg.isB l[k] = true) : allDig (l.take (k + 1)) = true := by
  rw [List.take_succ_eq_append_getElem hk]
  exact allDig_yes _ fun x hx2 => by
    rcases List.mem_append.1 hx2 with h1 | h1
    · exact allDig_mem h x h1
    · rw [List.mem_singleton.1 h1]; exact hx
set_option maxRecDepth 100000 in
set_option maxHeartbeats 1000000 in
theorem rverify_a (p m : ByteArray) (i : Int) (A A' : Option Addr) (n n' c c' : Nat) (w : World) (hn : n ≠ 18) :
    Calls Tryz.prog 60 #[.string p, .string m, .agg #[.int .i64 i, .slice A n c, .slice A' n' c']] w fun e w' => e = .returned (.bool false) ∧ Below w.heap.size w w' := by
  have e1 : ((n : Int) == 18) = false := by simp; omega
  have e2 : ((n : Int) != 18) = true := by simp; omega
  have e3 : decide (n = 18) = false := decide_eq_false hn
  go_enter Tryz.func60, Tryz.ntmps60
  go_wp2
  go_quiet (fail)
  go_wp2
  go_ret
  exact ⟨rfl, below_drewN ((Below.refl _ _).alloc (Nat.le_refl _) _) _⟩
set_option maxRecDepth 100000 in
set_option maxHeartbeats 1000000 in
theorem rverify_b (p m : ByteArray) (i : Int) (A A' : Option Addr) (n' c c' : Nat) (w : World) (hn : 8 < n') :
    Calls Tryz.prog 60 #[.string p, .string m, .agg #[.int .i64 i, .slice A 18 c, .slice A' n' c']] w fun e w' => e = .returned (.bool false) ∧ Below w.heap.size w w' := by
  have d2 : decide (8 < (n' : Int)) = true := decide_eq_true (by omega)
  have d3 : decide (8 < n') = true := decide_eq_true hn
  go_enter Tryz.func60, Tryz.ntmps60
  go_wp2
  go_quiet (fail)
  go_wp2
  go_ret
  exact ⟨rfl, below_drewN ((Below.refl _ _).alloc (Nat.le_refl _) _) _⟩
set_option maxRecDepth 100000 in
set_option maxHeartbeats 1000000 in
theorem rverify_c (p m : ByteArray) (i : Int) (A A' : Option Addr) (n' c c' : Nat) (w : World) (hn : n' ≤ 8) (hi : i < 0) :
    Calls Tryz.prog 60 #[.string p, .string m, .agg #[.int .i64 i, .slice A 18 c, .slice A' n' c']] w fun e w' => e = .returned (.bool false) ∧ Below w.heap.size w w' := by
  have d2 : decide (8 < (n' : Int)) = false := decide_eq_false (by omega)
  have d3 : decide (8 < n') = false := decide_eq_false (by omega)
  have d4 : decide (i < 0) = true := decide_eq_true hi
  go_enter Tryz.func60, Tryz.ntmps60
  go_wp2
  go_quiet (fail)
  go_wp2
  go_ret
  exact ⟨rfl, below_drewN ((Below.refl _ _).alloc (Nat.le_refl _) _) _⟩
set_option maxRecDepth 100000 in
set_option maxHeartbeats 1000000 in
theorem rverify_d (p m : ByteArray) (i : Int) (A A' : Option Addr) (n' c c' N : Nat) (w : World) (hn : n' ≤ 8) (hN : 2 ^ n' = N) (h0 : 0 ≤ i) (hi : (N : Int) ≤ i) :
    Calls Tryz.prog 60 #[.string p, .string m, .agg #[.int .i64 i, .slice A 18 c, .slice A' n' c']] w fun e w' => e = .returned (.bool false) ∧ Below w.heap.size w w' := by
  have d2 : decide (8 < (n' : Int)) = false := decide_eq_false (by omega)
  have d3 : decide (8 < n') = false := decide_eq_false (by omega)
  have d4 : decide (i < 0) = false := decide_eq_false (by omega)
  have d5 : decide ((N : Int) ≤ i) = true := decide_eq_true hi
  have HN := hide hN; clear hN
  go_enter Tryz.func60, Tryz.ntmps60
  go_wp2
  go_quiet ((go_at_call 104; exact Calls.quiet_of_same (rpower_same n' (by omega) N HN.out _)))
  go_wp2
  go_ret
  exact ⟨rfl, below_drewN ((Below.refl _ _).alloc (Nat.le_refl _) _) _⟩
set_option maxRecDepth 100000 in
set_option maxHeartbeats 4000000 in
theorem rverify_e (p m : ByteArray) (i : Nat) (A A' : Option Addr) (n' c c' N : Nat) (sig path : List ByteArray) (w : World) (hm : m.size ≤ 4611686018427387904) (hn : n' ≤ 8) (hN : 2 ^ n' = N) (hi : i < N) (hl : sig.length = 18) (hz : ∀ s ∈ sig, s.size ≤ 1048576) (hS : Strs w w.heap.size A sig)
    (hl2 : path.length = n') (hz2 : ∀ s ∈ path, s.size ≤ 1048576) (hS2 : Strs w w.heap.size A' path) (hc' : n' ≤ c') (R : Bool) (hR : ((allDig sig && allDig path) && checkB p (N : Int) i (Dg.listB (Dg.endsB m sig)) path) = R) :
    Calls Tryz.prog 60 #[.string p, .string m, .agg #[.int .i64 i, .slice A 18 c, .slice A' n' c']] w fun e w' => e = .returned (.bool R) ∧ Below w.heap.size w w' := by
  have hN256 : N ≤ 256 := by rw [← hN]; exact pow_le8 n' hn
  have d2 : decide (8 < (n' : Int)) = false := decide_eq_false (by omega)
  have d3 : decide (8 < n') = false := decide_eq_false (by omega)
  have d4 : decide ((i : Int) < 0) = false := decide_eq_false (by omega)
  have d5 : decide ((N : Int) ≤ (i : Int)) = false := decide_eq_false (by omega)
  have d6 : decide (N ≤ i) = false := decide_eq_false (by omega)
  have HN := hide hN; clear hN
  have hl' := hide hl; have hz' := hide hz; have hl2' := hide hl2; have hz2' := hide hz2; have HR := hide hR
  clear hl hz hl2 hz2 hR
  go_enter Tryz.func60, Tryz.ntmps60
  go_wp2
  go_quiet ((go_at_call 104; exact Calls.quiet_of_same (rpower_same n' (by omega) N HN.out _)))
  go_wp2_with fail
  have hW : Below w.heap.size w ((w.alloc (.cells #[.int .i64 (i : Int), .slice A 18 c, .slice A' n' c'] 42)).drewN nq) := below_drewN ((Below.refl _ _).alloc (Nat.le_refl _) _) nq
  have r0 : ((w.alloc (.cells #[.int .i64 (i : Int), .slice A 18 c, .slice A' n' c'] 42)).drewN nq).heap[w.heap.size]? = some (.cells #[.int .i64 (i : Int), .slice A 18 c, .slice A' n' c'] 42) := heap_alloc_new w _
  replace hS := keepS hS hW
  replace hS2 := keepS hS2 hW
  generalize (w.alloc (.cells #[.int .i64 (i : Int), .slice A 18 c, .slice A' n' c'] 42)).drewN nq = W0 at *
  clear d2 d3 d4 d5 d6
  refine (rdigs_any m hm W0).mono ?_
  rintro e w1 ⟨⟨vd, rfl, hD⟩, hb1⟩
  have hdl := digI_len m 18
  obtain ⟨gd, cd, rfl⟩ : ∃ g c, vd = .slice (some ⟨g, 0, none⟩) 18 c := by
    rcases hD.2 with ⟨_, h0⟩ | ⟨g, cap, cur, h0, _⟩
    · rw [hdl] at h0; cases h0
    · exact ⟨g, cap, by rw [h0, hdl]⟩
  have hL1 : OwnL w1 W0.heap.size [sR (.slice none 0 0) [], (.slice (some ⟨gd, 0, none⟩) 18 cd, 3, digI m 18)] := (OwnL.mk (rs := [(.slice (some ⟨gd, 0, none⟩) 18 cd, 3, digI m 18)]) (fun r hr => by rw [List.mem_singleton.1 hr]; exact hD) (List.pairwise_singleton _ _)).emptyS
  clear hD
  go_wp2
  go_loopw [8, 9] (fun ev kv wr => ∃ k : Nat, k ≤ 18 ∧ kv = .int .i64 k ∧ Below W0.heap.size W0 wr ∧ OwnL wr W0.heap.size [sR ev (enTo m sig k), (.slice (some ⟨gd, 0, none⟩) 18 cd, 3, digI m 18)] ∧ Hid (allDig (sig.take k) = true)) (fun _ kv _ => 18 - (intOf kv).toNat)
  case atStart => exact ⟨0, by omega, rfl, hb1, hL1, rfl⟩
  case round =>
    obtain ⟨k, hk, rfl, hbr, hLr, hTk⟩ := hrel
    have rr := row_next r0 hbr
    obtain ⟨f1, f2, f3⟩ := cells3 rr
    have hrl : w.heap.size < wr.heap.size := (Array.getElem?_eq_some_iff.1 rr).1
    by_cases hlt : k < 18
    · have hkl : k < sig.length := by rw [hl'.out]; exact hlt
      obtain ⟨b, off, rfl, hbl, hcell⟩ := (keepS hS hbr).get hkl
      have hxz := hz'.out sig[k] (List.getElem_mem hkl)
      have hxm := hide (List.getElem_mem hkl)
      have hgx := hide (getD_eq sig k hkl)
      have hTx := hide (allDig_take sig k hkl hTk.out)
      have hd15 := Dg.dig_le m k
      have hdi := hide (digI_get m 18 k hlt)
      have hdc := int_cell hLr.swap.head hdi.out
      have hgdl : gd < wr.heap.size := block_lt_of_cell hdc
      have hes := hide (enTo_succ m sig k)
      have hel := enTo_len m sig k
      rw [hgx.out] at hes
      generalize Dg.dig m k = d at *
      generalize sig[k] = x at *
      obtain ⟨D, hD⟩ : ∃ D : Nat, 15 - d = D := ⟨_, rfl⟩
      have hD15 : D ≤ 15 := by omega
      have e15 : (15 : Int) - (d : Int) = (D : Int) := by omega
      rw [hD] at hes
      clear hD
      generalize hC : Dg.chainB x D = C at *
      have HC := hide hC; clear hC
      generalize enTo m sig k = E at *
      have hk0 : (0 : Int) ≤ (k : Int) := by omega
      have hk1 : (k : Int) < 18 := by omega
      go_wp2_with fail
      cases hx : Dg.isB x with
      | false =>
        refine (ris_same x false hx (by omega) wr).mono ?_
        rintro e w2 ⟨rfl, rfl⟩
        have hRf : R = false := by
          rw [← HR.out, allDig_no sig x hxm.out hx]; rfl
        subst hRf
        clear HR hx
        go_wp2
        go_ret
        exact ⟨rfl, bnext hW hbr⟩
      | true =>
        have hT1 := hide (hTx.out hx)
        refine (ris_same x true hx (by omega) wr).mono ?_
        rintro e w2 ⟨rfl, rfl⟩
        clear hx hTx hxm
        go_wp2
        have hmx : Tryz.prog.follows .mixedOrders = true := by kernel_rfl
        have hHeld : (fun W : World => W.cell? ⟨w.heap.size, 1, none⟩ = some (.slice (some ⟨b, off, none⟩) 18 c) ∧ W.cell? ⟨b, off + k, none⟩ = some (.string x) ∧ W.cell? ⟨gd, k, none⟩ = some (.int .i64 (d : Int))) wr.drew := ⟨f2, hcell, hdc⟩
        refine wp_region_noPanic ?_
        refine wp_region_L (fun W : World => W.cell? ⟨w.heap.size, 1, none⟩ = some (.slice (some ⟨b, off, none⟩) 18 c) ∧ W.cell? ⟨b, off + k, none⟩ = some (.string x) ∧ W.cell? ⟨gd, k, none⟩ = some (.int .i64 (d : Int))) 13 hmx ?_
        refine wpAnyL_take (i := 0) (f0 := 16) (v := ?_) rfl (by decide +kernel) (by decide +kernel) (by decide +kernel) (by decide +kernel) (by decide +kernel) (fun _ _ _ h => h) (Or.inl ⟨by rfl, ?_⟩) hHeld ?_
        rotate_left
        · intro wS hS; obtain ⟨hS1, hS2, hS3⟩ := hS; go_simp; (try with_reducible rfl)
        simp only [Act.put, List.setIfInBounds_toArray]
        refine wpAnyL_take (i := 1) (f0 := 16) (v := ?_) rfl (by decide +kernel) (by decide +kernel) (by decide +kernel) (by decide +kernel) (by decide +kernel) (fun _ _ _ h => h) (Or.inl ⟨by rfl, ?_⟩) hHeld ?_
        rotate_left
        · intro wS hS; obtain ⟨hS1, hS2, hS3⟩ := hS; go_simp; (try with_reducible rfl)
        simp only [Act.put]
        refine wpAnyL_take (i := 2) (f0 := 16) (v := ?_) rfl (by decide +kernel) (by decide +kernel) (by decide +kernel) (by decide +kernel) (by decide +kernel) (fun _ _ _ h => h) (Or.inl ⟨by rfl, ?_⟩) hHeld ?_
        rotate_left
        · intro wS hS; obtain ⟨hS1, hS2, hS3⟩ := hS; go_simp; (try with_reducible rfl)
        simp only [Act.put]
        refine wpAnyL_take (i := 3) (f0 := 16) (v := ?_) rfl (by decide +kernel) (by decide +kernel) (by decide +kernel) (by decide +kernel) (by decide +kernel) (fun _ _ _ h => h) (Or.inl ⟨by rfl, ?_⟩) hHeld ?_
        rotate_left
        · intro wS hS; obtain ⟨hS1, hS2, hS3⟩ := hS; go_simp; (try with_reducible rfl)
        simp only [Act.put]
        refine wpAnyL_take (i := 4) (f0 := 16) (v := ?_) rfl (by decide +kernel) (by decide +kernel) (by decide +kernel) (by decide +kernel) (by decide +kernel) (fun _ _ _ h => h) (Or.inl ⟨by rfl, ?_⟩) hHeld ?_
        rotate_left
        · intro wS hS; obtain ⟨hS1, hS2, hS3⟩ := hS; go_simp; (try with_reducible rfl)
        simp only [Act.put]
        refine wpAnyL_take (i := 5) (f0 := 16) (v := ?_) rfl (by decide +kernel) (by decide +kernel) (by decide +kernel) (by decide +kernel) (by decide +kernel) (fun _ _ _ h => h) (Or.inl ⟨by rfl, ?_⟩) hHeld ?_
        rotate_left
        · intro wS hS; obtain ⟨hS1, hS2, hS3⟩ := hS; go_simp; (try with_reducible rfl)
        simp only [Act.put]
        refine wpAnyL_take (i := 6) (f0 := 16) (v := ?_) rfl (by decide +kernel) (by decide +kernel) (by decide +kernel) (by decide +kernel) (by decide +kernel) (fun _ _ _ h => h) (Or.inl ⟨by rfl, ?_⟩) hHeld ?_
        rotate_left
        · intro wS hS; obtain ⟨hS1, hS2, hS3⟩ := hS; go_simp; (try with_reducible rfl)
        simp only [Act.put]
        refine wpAnyL_take (i := 7) (f0 := 16) (v := ?_) rfl (by decide +kernel) (by decide +kernel) (by decide +kernel) (by decide +kernel) (by decide +kernel) (fun _ _ _ h => h) (Or.inl ⟨by rfl, ?_⟩) hHeld ?_
        rotate_left
        · intro wS hS; obtain ⟨hS1, hS2, hS3⟩ := hS; go_simp; (try with_reducible rfl)
        simp only [Act.put]
        refine wpAnyL_take (i := 8) (f0 := 16) (v := ?_) rfl (by decide +kernel) (by decide +kernel) (by decide +kernel) (by decide +kernel) (by decide +kernel) (fun _ _ _ h => h) (Or.inl ⟨by rfl, ?_⟩) hHeld ?_
        rotate_left
        · intro wS hS; obtain ⟨hS1, hS2, hS3⟩ := hS; go_simp; (try with_reducible rfl)
        simp only [Act.put]
        refine wpAnyL_take (i := 9) (f0 := 16) (v := ?_) rfl (by decide +kernel) (by decide +kernel) (by decide +kernel) (by decide +kernel) (by decide +kernel) (fun _ _ _ h => h) (Or.inl ⟨by rfl, ?_⟩) hHeld ?_
        rotate_left
        · intro wS hS; obtain ⟨hS1, hS2, hS3⟩ := hS; go_simp; (try with_reducible rfl)
        simp only [Act.put]
        refine wpAnyL_take (i := 10) (f0 := 16) (v := ?_) rfl (by decide +kernel) (by decide +kernel) (by decide +kernel) (by decide +kernel) (by decide +kernel) (fun _ _ _ h => h) (Or.inl ⟨by rfl, ?_⟩) hHeld ?_
        rotate_left
        · intro wS hS; obtain ⟨hS1, hS2, hS3⟩ := hS; go_simp; (try with_reducible rfl)
        simp only [Act.put]
        refine wpAnyL_one (i := 11) (by decide +kernel) (by rfl) (fun K hK => ?_)
        rw [if_pos (by rfl)]
        go_simp
        refine (rchain_of x _ D (IntWalk.i64_in (D : Int) (by omega)) C HC.out (by omega) (by omega) _).mono ?_
        rintro e w3 ⟨rfl, rfl⟩
        refine hK.out _ _ (Or.inr hHeld) ?_
        clear hK K
        try simp only [Act.put, List.setIfInBounds_toArray, List.set_cons_zero, List.set_cons_succ]
        have hLa : OwnL wr.drew W0.heap.size [sR _ E, (.slice (some ⟨gd, 0, none⟩) 18 cd, 3, digI m 18)] := hLr.below (Below.refl wr.heap.size wr).drew
        refine wpAnyL_one (i := 12) (by decide +kernel) (by rfl) (fun K hK => ?_)
        rw [if_pos (by rfl)]
        go_simp
        have hx := Below.news (Below.refl wr.drew.heap.size wr.drew) (.cells #[.string C] 9)
        have hHb : (fun W : World => W.cell? ⟨w.heap.size, 1, none⟩ = some (.slice (some ⟨b, off, none⟩) 18 c) ∧ W.cell? ⟨b, off + k, none⟩ = some (.string x) ∧ W.cell? ⟨gd, k, none⟩ = some (.int .i64 (d : Int))) (wr.drew.alloc (.cells #[.string C] 9)) := ⟨(hx.cell (block_lt_of_cell hHeld.1)).trans hHeld.1, (hx.cell (block_lt_of_cell hHeld.2.1)).trans hHeld.2.1, (hx.cell (block_lt_of_cell hHeld.2.2)).trans hHeld.2.2⟩
        refine hK.out _ _ (Or.inr hHb) ?_
        clear hK K
        try simp only [Act.put, List.setIfInBounds_toArray, List.set_cons_zero, List.set_cons_succ]
        refine wpAnyL_one (i := 13) (by decide +kernel) (by rfl) (fun K hK => ?_)
        rw [if_pos (by rfl)]
        refine wp_al (.tmp 48) (.tmp 60) 27 9 _ 16 (by rfl) Tryz.underlying27 strInfo rfl (by omega) W0.heap.size _ _ _ (by rfl) (hLa.below hx) _ 1 1 [.string C] (by rfl) rfl (Src.lit wr.drew #[.string C] 9 (fun u hu => by rw [List.mem_singleton.1 hu]; rfl)) (by rw [List.length_map]; omega) (Nat.le_trans hbr.size hx.size) ?_
        intro v5 w5 hL5 hb5
        rw [sR_snoc, ← hes.out] at hL5
        have hb6 := ((hbr.drew).trans (hx.mono hbr.size)).trans hb5
        refine hK.out _ _ (Or.inl (by decide +kernel)) ?_
        clear hK K
        try simp only [Act.put, List.setIfInBounds_toArray]
        refine wpAnyL_one (i := 14) (by decide +kernel) (by rfl) (fun K hK => ?_)
        rw [if_pos (by rfl)]
        go_simp
        refine hK.out _ _ (Or.inl (by decide +kernel)) ?_
        clear hK K
        try simp only [Act.put, List.setIfInBounds_toArray, List.set_cons_zero, List.set_cons_succ]
        refine wpAnyL_done (by decide +kernel) ?_ _
        refine NoPanic.normal ?_
        clear hHeld hHb f1 f2 f3 hcell hdc
        go_wp2
        go_roundw
        case rel => exact ⟨k + 1, by omega, by go_num, hb6, hL5, hT1⟩
        case measure => simp [intOf]; omega
    · obtain rfl : k = 18 := by omega
      rw [show ((18 : Nat) : Int) = (18 : Int) from rfl]
      have hes : OwnL wr W0.heap.size [sR u8 (Dg.endsB m sig), (.slice (some ⟨gd, 0, none⟩) 18 cd, 3, digI m 18)] := hLr
      have hAll : Hid (allDig sig = true) := by
        have h1 := hTk.out
        rw [List.take_of_length_le (by rw [hl'.out]; decide)] at h1
        exact h1
      have hel := hide (Dg.endsB_len m sig)
      have hez := hide (fun x (hx : x ∈ Dg.endsB m sig) => (Nat.le_trans (isB_ends m sig (allDig_16 hAll.out) x hx) (by decide) : x.size ≤ 1048576))
      generalize Dg.endsB m sig = ES at *
      obtain ⟨A1, c1, hv, hc1, hS1⟩ := OwnS.strs (l := ES) (OwnL.headS (l := ES) hes)
      rw [hel.out] at hv hc1
      subst hv
      rw [hAll.out, Bool.true_and] at HR
      obtain ⟨LB, hLB⟩ : ∃ LB, Dg.listB ES = LB := ⟨_, rfl⟩
      rw [hLB] at HR
      have hLz : LB.size = 16 := by rw [← hLB]; exact listB_size _
      have HLB := hide hLB
      clear hLB hLr hes hTk
      go_wp2
      go_loop [10] (fun jv => ∃ j : Nat, j ≤ n' ∧ jv = .int .i64 j ∧ Hid (allDig (path.take j) = true)) (fun jv => n' - (intOf jv).toNat)
      case atStart => exact ⟨0, by omega, rfl, rfl⟩
      case round =>
        obtain ⟨j, hj, rfl, hTj⟩ := hrel
        by_cases hlt2 : j < n'
        · have hjl : j < path.length := by rw [hl2'.out]; exact hlt2
          obtain ⟨b, off, rfl, hbl, hcell⟩ := (keepS hS2 hbr).get hjl
          have hxz := hz2'.out path[j] (List.getElem_mem hjl)
          have hxm := hide (List.getElem_mem hjl)
          have hTx := hide (allDig_take path j hjl hTj.out)
          generalize path[j] = x at *
          go_wp2_with fail
          cases hx : Dg.isB x with
          | false =>
            refine (ris_same x false hx (by omega) wr).mono ?_
            rintro e w2 ⟨rfl, rfl⟩
            have hRf : R = false := by
              rw [← HR.out, allDig_no path x hxm.out hx]; rfl
            subst hRf
            clear HR hx
            go_wp2
            go_ret
            exact ⟨rfl, bnext hW hbr⟩
          | true =>
            have hT1 := hide (hTx.out hx)
            refine (ris_same x true hx (by omega) wr).mono ?_
            rintro e w2 ⟨rfl, rfl⟩
            clear hx hTx hxm
            go_wp2
            go_round
            case rel => exact ⟨j + 1, by omega, by go_num, hT1⟩
            case measure => simp [intOf]; omega
        · obtain rfl : j = n' := by omega
          have hAp : Hid (allDig path = true) := by
            have h1 := hTj.out
            rw [List.take_of_length_le (by rw [hl2'.out]; exact Nat.le_refl _)] at h1
            exact h1
          rw [hAp.out, Bool.true_and] at HR
          clear hTj
          go_wp2
          have hmx : Tryz.prog.follows .mixedOrders = true := by kernel_rfl
          have hHeld : (fun W : World => W.cell? ⟨w.heap.size, 0, none⟩ = some (.int .i64 (i : Int)) ∧ W.cell? ⟨w.heap.size, 2, none⟩ = some (.slice A' j c')) wr.drew := ⟨f1, f3⟩
          refine wp_region_noPanic ?_
          refine wp_region_L (fun W : World => W.cell? ⟨w.heap.size, 0, none⟩ = some (.int .i64 (i : Int)) ∧ W.cell? ⟨w.heap.size, 2, none⟩ = some (.slice A' j c')) 13 hmx ?_
          refine wpAnyL_take (i := 0) (f0 := 16) (v := ?_) rfl (by decide +kernel) (by decide +kernel) (by decide +kernel) (by decide +kernel) (by decide +kernel) (fun _ _ _ h => h) (Or.inl ⟨by rfl, ?_⟩) hHeld ?_
          rotate_left
          · intro wS hS; obtain ⟨hS1, hS2⟩ := hS; go_simp; (try with_reducible rfl)
          simp only [Act.put, List.setIfInBounds_toArray]
          refine wpAnyL_take (i := 1) (f0 := 16) (v := ?_) rfl (by decide +kernel) (by decide +kernel) (by decide +kernel) (by decide +kernel) (by decide +kernel) (fun _ _ _ h => h) (Or.inl ⟨by rfl, ?_⟩) hHeld ?_
          rotate_left
          · intro wS hS; obtain ⟨hS1, hS2⟩ := hS; go_simp; (try with_reducible rfl)
          simp only [Act.put]
          refine wpAnyL_take (i := 2) (f0 := 16) (v := ?_) rfl (by decide +kernel) (by decide +kernel) (by decide +kernel) (by decide +kernel) (by decide +kernel) (fun _ _ _ h => h) (Or.inl ⟨by rfl, ?_⟩) hHeld ?_
          rotate_left
          · intro wS hS; obtain ⟨hS1, hS2⟩ := hS; go_simp; (try with_reducible rfl)
          simp only [Act.put]
          refine wpAnyL_take (i := 3) (f0 := 16) (v := ?_) rfl (by decide +kernel) (by decide +kernel) (by decide +kernel) (by decide +kernel) (by decide +kernel) (fun _ _ _ h => h) (Or.inl ⟨by rfl, ?_⟩) hHeld ?_
          rotate_left
          · intro wS hS; obtain ⟨hS1, hS2⟩ := hS; go_simp; (try with_reducible rfl)
          simp only [Act.put]
          refine wpAnyL_take (i := 5) (f0 := 16) (v := ?_) rfl (by decide +kernel) (by decide +kernel) (by decide +kernel) (by decide +kernel) (by decide +kernel) (fun _ _ _ h => h) (Or.inl ⟨by rfl, ?_⟩) hHeld ?_
          rotate_left
          · intro wS hS; obtain ⟨hS1, hS2⟩ := hS; go_simp; (try with_reducible rfl)
          simp only [Act.put]
          refine wpAnyL_take (i := 6) (f0 := 16) (v := ?_) rfl (by decide +kernel) (by decide +kernel) (by decide +kernel) (by decide +kernel) (by decide +kernel) (fun _ _ _ h => h) (Or.inl ⟨by rfl, ?_⟩) hHeld ?_
          rotate_left
          · intro wS hS; obtain ⟨hS1, hS2⟩ := hS; go_simp; (try with_reducible rfl)
          simp only [Act.put]
          refine wpAnyL_take (i := 7) (f0 := 16) (v := ?_) rfl (by decide +kernel) (by decide +kernel) (by decide +kernel) (by decide +kernel) (by decide +kernel) (fun _ _ _ h => h) (Or.inl ⟨by rfl, ?_⟩) hHeld ?_
          rotate_left
          · intro wS hS; obtain ⟨hS1, hS2⟩ := hS; go_simp; (try with_reducible rfl)
          simp only [Act.put]
          refine wpAnyL_take (i := 9) (f0 := 16) (v := ?_) rfl (by decide +kernel) (by decide +kernel) (by decide +kernel) (by decide +kernel) (by decide +kernel) (fun _ _ _ h => h) (Or.inl ⟨by rfl, ?_⟩) hHeld ?_
          rotate_left
          · intro wS hS; obtain ⟨hS1, hS2⟩ := hS; go_simp; (try with_reducible rfl)
          simp only [Act.put]
          refine wpAnyL_take (i := 10) (f0 := 16) (v := ?_) rfl (by decide +kernel) (by decide +kernel) (by decide +kernel) (by decide +kernel) (by decide +kernel) (fun _ _ _ h => h) (Or.inl ⟨by rfl, ?_⟩) hHeld ?_
          rotate_left
          · intro wS hS; obtain ⟨hS1, hS2⟩ := hS; go_simp; (try with_reducible rfl)
          simp only [Act.put]
          refine wpAnyL_one (i := 4) (by decide +kernel) (by rfl) (fun K hK => ?_)
          rw [if_pos (by rfl)]
          go_simp
          refine (rpower_any j (by omega) N HN.out _).mono ?_
          rintro e w3 ⟨rfl, rfl⟩
          refine hK.out _ _ (Or.inr hHeld) ?_
          clear hK K
          try simp only [Act.put, List.setIfInBounds_toArray, List.set_cons_zero, List.set_cons_succ]
          refine wpAnyL_one (i := 8) (by decide +kernel) (by rfl) (fun K hK => ?_)
          rw [if_pos (by rfl)]
          go_simp
          refine (rlist_of A1 c1 18 ES hel.out LB HLB.out _ (by rw [hel.out]; decide) (joined_16 ES (by rw [hel.out]; decide) hez.out) hez.out (keepS hS1 (Below.refl wr.heap.size wr).drew)).mono ?_
          rintro e w3 ⟨rfl, hb3⟩
          have hb3 := below_undrew hb3
          have hH3 : (fun W : World => W.cell? ⟨w.heap.size, 0, none⟩ = some (.int .i64 (i : Int)) ∧ W.cell? ⟨w.heap.size, 2, none⟩ = some (.slice A' j c')) w3 := ⟨(hb3.cell hrl).trans f1, (hb3.cell hrl).trans f3⟩
          refine hK.out _ _ (Or.inr hH3) ?_
          clear hK K
          try simp only [Act.put, List.setIfInBounds_toArray, List.set_cons_zero, List.set_cons_succ]
          refine wpAnyL_one (i := 11) (by decide +kernel) (by rfl) (fun K hK => ?_)
          rw [if_pos (by rfl)]
          go_simp
          refine (rcheck_of p N i LB A' c' j path R HR.out _ hl2'.out (by omega) hc' hz2'.out (by omega) (keepS (keepS hS2 hbr) hb3)).mono ?_
          rintro e w4 ⟨rfl, hb4⟩
          have hH4 : (fun W : World => W.cell? ⟨w.heap.size, 0, none⟩ = some (.int .i64 (i : Int)) ∧ W.cell? ⟨w.heap.size, 2, none⟩ = some (.slice A' j c')) w4 := ⟨(hb4.cell (Nat.lt_of_lt_of_le hrl hb3.size)).trans hH3.1, (hb4.cell (Nat.lt_of_lt_of_le hrl hb3.size)).trans hH3.2⟩
          refine hK.out _ _ (Or.inr hH4) ?_
          clear hK K
          try simp only [Act.put, List.setIfInBounds_toArray, List.set_cons_zero, List.set_cons_succ]
          refine wpAnyL_take (i := 12) (f0 := 16) (v := ?_) rfl (by decide +kernel) (by decide +kernel) (by decide +kernel) (by decide +kernel) (by decide +kernel) (fun _ _ _ h => h) (Or.inl ⟨by rfl, ?_⟩) hH4 ?_
          rotate_left
          · intro wS hS; obtain ⟨hS1, hS2⟩ := hS; go_simp; (try with_reducible rfl)
          simp only [Act.put, List.setIfInBounds_toArray]
          refine wpAnyL_done (by decide +kernel) ?_ _
          refine NoPanic.normal ?_
          go_wp2
          go_ret
          exact ⟨rfl, bnext (bnext (bnext hW hbr) hb3) hb4⟩
theorem rverify_of (p m : ByteArray) (i : Int) (A A' : Option Addr) (n n' c c' : Nat) (sig path : List ByteArray) (w : World) (hm : m.size ≤ 4611686018427387904) (hl : sig.length = n) (hz : ∀ s ∈ sig, s.size ≤ 1048576) (hS : Strs w w.heap.size A sig)
    (hl2 : path.length = n') (hz2 : ∀ s ∈ path, s.size ≤ 1048576) (hS2 : Strs w w.heap.size A' path) (hc' : n' ≤ c') (R : Bool) (hR : verifyB p m i sig path = R) :
    Calls Tryz.prog 60 #[.string p, .string m, .agg #[.int .i64 i, .slice A n c, .slice A' n' c']] w fun e w' => e = .returned (.bool R) ∧ Below w.heap.size w w' := by
  by_cases h1 : n = 18
  · subst h1
    by_cases h2 : n' ≤ 8
    · by_cases h3 : i < 0
      · have hRf : R = false := by
          rw [← hR]
          exact verifyB_not fun hh => by omega
        subst hRf
        exact rverify_c p m i A A' n' c c' w h2 h3
      · obtain ⟨k, rfl⟩ := Int.eq_ofNat_of_zero_le (Int.not_lt.1 h3)
        obtain ⟨N, hN⟩ : ∃ N, 2 ^ n' = N := ⟨_, rfl⟩
        by_cases h4 : k < N
        · rw [verifyB_main p m k sig path N hl (by omega) (by omega) (by rw [hl2]; exact hN) (by omega)] at hR
          exact rverify_e p m k A A' n' c c' N sig path w hm h2 hN h4 hl hz hS hl2 hz2 hS2 hc' R hR
        · have hRf : R = false := by
            rw [← hR]
            exact verifyB_not fun hh => by
              have := hh.2.2.2.1
              rw [hl2, hN] at this
              omega
          subst hRf
          exact rverify_d p m k A A' n' c c' N w h2 hN (by omega) (by omega)
    · have hRf : R = false := by
        rw [← hR]
        exact verifyB_not fun hh => by omega
      subst hRf
      exact rverify_b p m i A A' n' c c' w (by omega)
  · have hRf : R = false := by
      rw [← hR]
      exact verifyB_not fun hh => by omega
    subst hRf
    exact rverify_a p m i A A' n n' c c' w h1
end Go.Proofs.YtobhpeockinnjaaGreatDoor
/- The law ProofComplete in plain Lean. No conditions but those that each theorem states. -/
namespace Go.Proofs.YtobhpeockinnjaaGreatDoor
open Go Go.RowKit Go.Sort Go.Maps
theorem make_at {l : List Dg.It} (hv : Dg.validC l = true) {k : Nat} (hk : k < l.length) :
    makeE l l[k].id = if l[k].gone = true then (noPf, 16) else (⟨((Dg.leavesOf l).length : Nat), (idxN l k : Nat), Dg.bareI l[k], Dg.path (Dg.leavesOf l) (idxN l k)⟩, 0) := by
  obtain ⟨s, hW, _⟩ := Dg.valid_walk hv
  have h1 := findX_walk (Nat.le_refl _) hW hk
  rcases findX_cases l l[k].id with ⟨_, h2⟩ | ⟨j, hj, h2, h3, _⟩
  · rw [h1] at h2; omega
  · have hjk : j = k := by rw [h1] at h3; omega
    subst hjk
    unfold makeE
    rw [if_neg (by rw [hv]; decide), h2]
    simp only [List.getElem?_eq_getElem hk]
end Go.Proofs.YtobhpeockinnjaaGreatDoor
/- Few and Same of the reference, small and short of the laws. No conditions but those that each theorem states. -/
namespace Go.Proofs.YtobhpeockinnjaaGreatDoor
open Go Go.RowKit Go.Sort Go.Maps
def fewP (p : Pf) : Bool := decide (p.it.id.size + p.it.parent.size + p.it.number.size ≤ 600) && (decide (p.it.north.size ≤ 600) && (decide (p.it.south.size ≤ 600) && (decide (p.path.length ≤ 30) && p.path.all fun s => decide (s.size ≤ 100))))
theorem fewP_leaf {p : Pf} (h : fewP p = true) : (∀ s ∈ leafS p.it, s.size ≤ 10000) ∧ p.path.length ≤ 30 ∧ ∀ s ∈ p.path, s.size ≤ 100 := by
  unfold fewP at h
  simp only [Bool.and_eq_true, decide_eq_true_eq, List.all_eq_true] at h
  obtain ⟨h1, h2, h3, h4, h5⟩ := h
  refine ⟨fun s hs => ?_, h4, h5⟩
  unfold leafS at hs
  simp only [List.mem_cons, List.not_mem_nil, or_false] at hs
  rcases hs with rfl | rfl | rfl | rfl | rfl
  · unfold kindS; split <;> decide
  · omega
  · omega
  · omega
  · omega
theorem small_of (l : List Dg.It) (A : Option Addr) (n c : Nat) (hl : l.length = n) (hn : n ≤ 9223372036854775807) (w : World) (hI : Its w w.heap.size A l) (R : Bool) (hR : fewC l 20 = R) :
    Calls Tryz.prog 11 #[.agg #[.slice A n c]] w fun e w' => e = .returned (.bool R) ∧ Below w.heap.size w w' := by
  have hx1 := Below.news (Below.refl w.heap.size w) (.cells #[.slice A n c] 24)
  have hc := iCells0 (heap_alloc_new w (.cells #[.slice A n c] 24))
  have hI1 := hI.keep hx1
  have HR := hide hR
  clear hR hI
  go_enter Tryz.func11, Tryz.ntmps11
  go_wp2_with fail
  refine (rfew_of l A n c 20 hl hn (by omega) _ hI1 R HR.out).mono ?_
  rintro e w2 ⟨rfl, hx⟩
  have hb := bnext hx1 hx
  clear hx hx1 hc hI1
  go_wp2
  go_ret
  exact ⟨rfl, hb⟩
set_option maxRecDepth 100000 in
set_option maxHeartbeats 8000000 in
theorem rfewP_of (p : Pf) (A : Option Addr) (m c : Nat) (hm : p.path.length = m) (hm2 : m ≤ 9223372036854775807) (hsz : p.it.id.size ≤ 9223372036854775807 ∧ p.it.parent.size ≤ 9223372036854775807 ∧ p.it.number.size ≤ 9223372036854775807) (hsum : p.it.id.size + p.it.parent.size + p.it.number.size ≤ 9223372036854775807) (w : World) (hS : Strs w w.heap.size A p.path) (R : Bool) (hR : fewP p = R) :
    Calls Tryz.prog 12 #[.agg #[.int .i64 p.count, .int .i64 p.idx, .int .i64 p.it.kind, .string p.it.id, .string p.it.parent, .string p.it.number, .string p.it.north, .string p.it.south, .bool p.it.gone, .slice A m c]] w fun e w' => e = .returned (.bool R) ∧ Below w.heap.size w w' := by
  have hx1 := Below.news (Below.refl w.heap.size w) (.cells #[.int .i64 p.count, .int .i64 p.idx, .int .i64 p.it.kind, .string p.it.id, .string p.it.parent, .string p.it.number, .string p.it.north, .string p.it.south, .bool p.it.gone, .slice A m c] 29)
  have hr1 := heap_alloc_new w (.cells #[.int .i64 p.count, .int .i64 p.idx, .int .i64 p.it.kind, .string p.it.id, .string p.it.parent, .string p.it.number, .string p.it.north, .string p.it.south, .bool p.it.gone, .slice A m c] 29)
  have hx2 := Below.news (Below.refl (w.alloc (.cells #[.int .i64 p.count, .int .i64 p.idx, .int .i64 p.it.kind, .string p.it.id, .string p.it.parent, .string p.it.number, .string p.it.north, .string p.it.south, .bool p.it.gone, .slice A m c] 29)).heap.size (w.alloc (.cells #[.int .i64 p.count, .int .i64 p.idx, .int .i64 p.it.kind, .string p.it.id, .string p.it.parent, .string p.it.number, .string p.it.north, .string p.it.south, .bool p.it.gone, .slice A m c] 29))) (.cells #[.int .i64 p.it.kind, .string p.it.id, .string p.it.parent, .string p.it.number, .string p.it.north, .string p.it.south, .bool p.it.gone] 26)
  have hr2 := heap_alloc_new (w.alloc (.cells #[.int .i64 p.count, .int .i64 p.idx, .int .i64 p.it.kind, .string p.it.id, .string p.it.parent, .string p.it.number, .string p.it.north, .string p.it.south, .bool p.it.gone, .slice A m c] 29)) (.cells #[.int .i64 p.it.kind, .string p.it.id, .string p.it.parent, .string p.it.number, .string p.it.north, .string p.it.south, .bool p.it.gone] 26)
  have hs1 : (w.alloc (.cells #[.int .i64 p.count, .int .i64 p.idx, .int .i64 p.it.kind, .string p.it.id, .string p.it.parent, .string p.it.number, .string p.it.north, .string p.it.south, .bool p.it.gone, .slice A m c] 29)).heap.size = w.heap.size + 1 := by simp
  rw [hs1] at hr2
  have hb1 := bnext hx1 hx2
  have hS1 : PS w.heap.size (w.heap.size + 1) p A m c ((w.alloc (.cells #[.int .i64 p.count, .int .i64 p.idx, .int .i64 p.it.kind, .string p.it.id, .string p.it.parent, .string p.it.number, .string p.it.north, .string p.it.south, .bool p.it.gone, .slice A m c] 29)).alloc (.cells #[.int .i64 p.it.kind, .string p.it.id, .string p.it.parent, .string p.it.number, .string p.it.north, .string p.it.south, .bool p.it.gone] 26)) := ⟨iNext hr1 hx2, hr2, keepS hS hb1⟩
  have HM := hide hm; have HR := hide hR
  clear hr2 hx2 hs1 hS hm hR
  obtain ⟨c0, c1, c2, c3, c4, c5, c6, c7, c8, c9⟩ := jCells10 hr1
  go_enter Tryz.func12, Tryz.ntmps12
  go_upto_region 2 with (fail)
  clear c0 c1 c2 c3 c4 c5 c6 c7 c8 c9 hr1 hx1
  generalize (w.alloc (.cells #[.int .i64 p.count, .int .i64 p.idx, .int .i64 p.it.kind, .string p.it.id, .string p.it.parent, .string p.it.number, .string p.it.north, .string p.it.south, .bool p.it.gone, .slice A m c] 29)).alloc (.cells #[.int .i64 p.it.kind, .string p.it.id, .string p.it.parent, .string p.it.number, .string p.it.north, .string p.it.south, .bool p.it.gone] 26) = w1 at *
  obtain ⟨q0, q1, q2, q3, q4, q5, q6⟩ := iCells hS1.r2
  obtain ⟨c0, c1, c2, c3, c4, c5, c6, c7, c8, c9⟩ := jCells10 hS1.r1
  have hw1 : IntKind.i64.wrap ((p.it.id.size : Int) + (p.it.parent.size : Int)) = (p.it.id.size : Int) + (p.it.parent.size : Int) := IntWalk.i64_in _ (by omega)
  have hw2 : IntKind.i64.wrap ((p.it.id.size : Int) + (p.it.parent.size : Int) + (p.it.number.size : Int)) = (p.it.id.size : Int) + (p.it.parent.size : Int) + (p.it.number.size : Int) := IntWalk.i64_in _ (by omega)
  have hno : ∀ (h : fewP p = false), false = R := fun h => by rw [← HR.out, h]
  by_cases g1 : (600 : Int) < (p.it.id.size : Int) + (p.it.parent.size : Int) + (p.it.number.size : Int)
  · have E9 := hide (hno (by unfold fewP; rw [decide_eq_false (by omega), Bool.false_and]))
    clear hno
    go_wp2
    go_ret
    exact ⟨ret_bool E9.out, hb1⟩
  by_cases g2 : (600 : Int) < (p.it.north.size : Int)
  · have E9 := hide (hno (by unfold fewP; rw [show decide (p.it.north.size ≤ 600) = false from decide_eq_false (by omega), Bool.false_and, Bool.and_false]))
    clear hno
    go_wp2
    go_ret
    exact ⟨ret_bool E9.out, hb1⟩
  by_cases g3 : (600 : Int) < (p.it.south.size : Int)
  · have E9 := hide (hno (by unfold fewP; rw [show decide (p.it.south.size ≤ 600) = false from decide_eq_false (by omega), Bool.false_and, Bool.and_false, Bool.and_false]))
    clear hno
    go_wp2
    go_ret
    exact ⟨ret_bool E9.out, hb1⟩
  by_cases g4 : (30 : Int) < (m : Int)
  · have E9 := hide (hno (by unfold fewP; rw [show decide (p.path.length ≤ 30) = false from decide_eq_false (by rw [HM.out]; omega), Bool.false_and, Bool.and_false, Bool.and_false, Bool.and_false]))
    clear hno
    go_wp2
    go_ret
    exact ⟨ret_bool E9.out, hb1⟩
  have HOK := hide (show fewP p = p.path.all fun s => decide (s.size ≤ 100) by
    unfold fewP
    rw [decide_eq_true (show p.it.id.size + p.it.parent.size + p.it.number.size ≤ 600 by omega), decide_eq_true (show p.it.north.size ≤ 600 by omega), decide_eq_true (show p.it.south.size ≤ 600 by omega), decide_eq_true (show p.path.length ≤ 30 by rw [HM.out]; omega)]
    rfl)
  clear hno
  go_wp2
  clear g1 g2 g3 g4 hw1 hw2 q0 q1 q2 q3 q4 q5 q6 c0 c1 c2 c3 c4 c5 c6 c7 c8
  go_loop [4] (fun iv => ∃ k : Nat, k ≤ m ∧ iv = .int .i64 (k : Int) ∧ Hid (∀ s ∈ p.path.take k, s.size ≤ 100)) (fun iv => m - (intOf iv).toNat)
  case atStart => exact ⟨0, by omega, rfl, fun s hs => by simp at hs⟩
  case round =>
    obtain ⟨k, hk, rfl, hall⟩ := hrel
    by_cases hlt : k < m
    · have hkm : (k : Int) < (m : Int) := by omega
      have hk0 : (0 : Int) ≤ (k : Int) := by omega
      have hkl : k < p.path.length := by rw [HM.out]; exact hlt
      obtain ⟨b, off, rfl, _, hcell⟩ := hS1.path.get hkl
      obtain ⟨y, hy⟩ : ∃ y, p.path[k] = y := ⟨_, rfl⟩
      rw [hy] at hcell
      have HY := hide hy
      clear hy
      by_cases hz : (100 : Int) < (y.size : Int)
      · have E9 := hide (show false = R by
          rw [← HR.out, HOK.out]
          exact (List.all_eq_false.2 ⟨y, by rw [← HY.out]; exact List.getElem_mem hkl, by rw [decide_eq_false (by omega)]; exact Bool.false_ne_true⟩).symm)
        go_wp2
        go_ret
        exact ⟨ret_bool E9.out, hb1⟩
      · have HZ := hide hz
        go_wp2
        go_round
        case rel => exact ⟨k + 1, by omega, by go_num, fun s hs => by
          rw [List.take_succ_eq_append_getElem hkl, HY.out] at hs
          rcases List.mem_append.1 hs with h | h
          · exact hall.out s h
          · rw [List.mem_singleton.1 h]; have := HZ.out; omega⟩
        case measure => simp [intOf]; omega
    · obtain rfl : k = m := by omega
      have E9 := hide (show true = R by
        rw [← HR.out, HOK.out]
        exact (List.all_eq_true.2 fun s hs => decide_eq_true (by have h := hall.out; rw [← HM.out, List.take_length] at h; exact h s hs)).symm)
      go_wp2
      go_ret
      exact ⟨ret_bool E9.out, hb1⟩
end Go.Proofs.YtobhpeockinnjaaGreatDoor
/- The law ProofComplete. No conditions but those that each theorem states. -/
namespace Go.Proofs.YtobhpeockinnjaaGreatDoor
open Go Go.RowKit Go.Sort Go.Maps
attribute [local go_sem] Oper.semAt_some
/-- What the law holds: the code in its variable, its items, the tables, and its leaves. -/
structure KS (g : Nat) (A : Option Addr) (n c : Nat) (l : List Dg.It) (A7 : Option Addr) (L : List ByteArray) (X : World) : Prop where
  row : X.heap[g]? = some (.cells #[.slice A n c] 24 (0, 0))
  its : Its X X.heap.size A l
  env : Env X
  lis : Strs X X.heap.size A7 L
theorem KS.below {g : Nat} {A : Option Addr} {n c : Nat} {l : List Dg.It} {A7 : Option Addr} {L : List ByteArray} {X X' : World} (h : KS g A n c l A7 L X) (hb : Below X.heap.size X X') : KS g A n c l A7 L X' :=
  ⟨iNext h.row hb, h.its.keep hb, h.env.next hb, keepS h.lis hb⟩
theorem kfew {l : List Dg.It} {m : Nat} (h : fewC l m = true) : l.length ≤ m ∧ ∀ x ∈ l, ∀ s ∈ Dg.fieldsI x, s.size ≤ 500 := by
  obtain ⟨h1, h2⟩ := fewC_spec h
  exact ⟨h1, fun x hx => small_fields (h2 x hx)⟩
theorem setCell_off {X : World} {g : Nat} {o : Nat} {v : Value} {k : Nat} (h : k ≠ g) : (X.setCell ⟨g, o, none⟩ v).heap[k]? = X.heap[k]? := by
  simp only [World.setCell]
  rw [Array.getElem?_modify, if_neg (fun e => h e.symm)]
theorem path_few (l : List ByteArray) (i : Nat) (h : l.length ≤ 20) (hi : i < l.length) : (Dg.path l i).length ≤ 1048576 := by
  rw [Dg.path_len l.length l i rfl hi]
  have h1 := Dg.length_small l.length h i hi
  have h2 : ∀ n, n ≤ 20 → Dg.bits 5 n ≤ 1000 := by decide +kernel
  exact Nat.le_trans h1 (Nat.le_trans (h2 _ h) (by decide))
end Go.Proofs.YtobhpeockinnjaaGreatDoor

