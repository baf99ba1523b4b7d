/- Walks and laws of this seat, several texts in one: P5, P9, C41, Code9, C42, Code10, C43, C40, C44, P2, C16. No conditions but those that each theorem states. -/
import Derived.Test.YtobhpeockinnjaaGreatDoorHA4
import Derived.Tactics
import Derived.Tactics2
import Derived.Defers
import Derived.Laws.Pointers
import Derived.Laws.LoneSync
import Derived.RegionTactic
import Derived.RegionCalls
import Derived.ChangeAlike
/- Check of package proof. No conditions but those that each theorem states. -/
namespace Go.Proofs.YtobhpeockinnjaaGreatDoor
open Go Go.RowKit Go.Sort Go.Maps
set_option maxRecDepth 100000 in
set_option maxHeartbeats 16000000 in
theorem pcheck_of (root : ByteArray) (p : Pf) (A : Option Addr) (m c : Nat) (hm : p.path.length = m) (hm2 : m ≤ 1048576) (hps : ∀ s ∈ p.path, s.size ≤ 1048576) (hz : ∀ s ∈ leafS p.it, s.size ≤ 10000) (w : World) (he : Env w) (hS : Strs w w.heap.size A p.path) (R : Bool) (hR : checkP root p = R) :
    Calls Tryz.prog 17 #[.string root, .agg #[.int .i64 p.count, .int .i64 p.idx, .int .i64 p.it.kind, .string p.it.id, .string p.it.parent, .string p.it.number, .string p.it.north, .string p.it.south, .bool p.it.gone, .slice A m c]] w fun e w' => e = .returned (.bool R) ∧ Below w.heap.size w w' := by
  have hx1 := Below.news (Below.refl w.heap.size w) (.cells #[.int .i64 p.count, .int .i64 p.idx, .int .i64 p.it.kind, .string p.it.id, .string p.it.parent, .string p.it.number, .string p.it.north, .string p.it.south, .bool p.it.gone, .slice A m c] 29)
  have hr1 := heap_alloc_new w (.cells #[.int .i64 p.count, .int .i64 p.idx, .int .i64 p.it.kind, .string p.it.id, .string p.it.parent, .string p.it.number, .string p.it.north, .string p.it.south, .bool p.it.gone, .slice A m c] 29)
  have hx2 := Below.news (Below.refl (w.alloc (.cells #[.int .i64 p.count, .int .i64 p.idx, .int .i64 p.it.kind, .string p.it.id, .string p.it.parent, .string p.it.number, .string p.it.north, .string p.it.south, .bool p.it.gone, .slice A m c] 29)).heap.size (w.alloc (.cells #[.int .i64 p.count, .int .i64 p.idx, .int .i64 p.it.kind, .string p.it.id, .string p.it.parent, .string p.it.number, .string p.it.north, .string p.it.south, .bool p.it.gone, .slice A m c] 29))) (.cells #[.int .i64 p.it.kind, .string p.it.id, .string p.it.parent, .string p.it.number, .string p.it.north, .string p.it.south, .bool p.it.gone] 26)
  have hr2 := heap_alloc_new (w.alloc (.cells #[.int .i64 p.count, .int .i64 p.idx, .int .i64 p.it.kind, .string p.it.id, .string p.it.parent, .string p.it.number, .string p.it.north, .string p.it.south, .bool p.it.gone, .slice A m c] 29)) (.cells #[.int .i64 p.it.kind, .string p.it.id, .string p.it.parent, .string p.it.number, .string p.it.north, .string p.it.south, .bool p.it.gone] 26)
  have hs1 : (w.alloc (.cells #[.int .i64 p.count, .int .i64 p.idx, .int .i64 p.it.kind, .string p.it.id, .string p.it.parent, .string p.it.number, .string p.it.north, .string p.it.south, .bool p.it.gone, .slice A m c] 29)).heap.size = w.heap.size + 1 := by simp
  rw [hs1] at hr2
  have hb1 := bnext hx1 hx2
  have hS1 : PS w.heap.size (w.heap.size + 1) p A m c ((w.alloc (.cells #[.int .i64 p.count, .int .i64 p.idx, .int .i64 p.it.kind, .string p.it.id, .string p.it.parent, .string p.it.number, .string p.it.north, .string p.it.south, .bool p.it.gone, .slice A m c] 29)).alloc (.cells #[.int .i64 p.it.kind, .string p.it.id, .string p.it.parent, .string p.it.number, .string p.it.north, .string p.it.south, .bool p.it.gone] 26)) := ⟨iNext hr1 hx2, hr2, keepS hS hb1⟩
  have HM := hide hm; have HPS := hide hps; have HZ := hide hz; have HR := hide hR; have HE := hide he
  obtain ⟨x, hx⟩ : ∃ x, p.it = x := ⟨_, rfl⟩
  obtain ⟨P1, hP1⟩ : ∃ q, p.path = q := ⟨_, rfl⟩
  clear hr2 hx2 hs1 hS hm hps hz hR he
  have hmx : Tryz.prog.follows .mixedOrders = true := by kernel_rfl
  have hne : p.it.number.toList.isEmpty = decide (p.it.number = Dg.nil8) := (emp_iff _).symm
  obtain ⟨c0, c1, c2, c3, c4, c5, c6, c7, c8, c9⟩ := jCells10 hr1
  clear hx hP1
  go_enter Tryz.func17, Tryz.ntmps17
  go_upto_region 2 with (fail)
  clear c0 c1 c2 c3 c4 c5 c6 c7 c8 c9 hr1 hx1
  generalize (w.alloc (.cells #[.int .i64 p.count, .int .i64 p.idx, .int .i64 p.it.kind, .string p.it.id, .string p.it.parent, .string p.it.number, .string p.it.north, .string p.it.south, .bool p.it.gone, .slice A m c] 29)).alloc (.cells #[.int .i64 p.it.kind, .string p.it.id, .string p.it.parent, .string p.it.number, .string p.it.north, .string p.it.south, .bool p.it.gone] 26) = w1 at *
  by_cases k2 : p.it.kind = 2
  · have kb2 : (p.it.kind == 2) = true := beq_iff_eq.2 k2
    clear k2
    have HKO := hide (show kindOk p.it = true by unfold kindOk; rw [kb2, Bool.true_or])
    cases hN : decide (p.it.number = Dg.nil8) with
    | false =>
      rw [hN] at hne
      have E9 := hide (show false = R by rw [← HR.out]; exact (checkP_num hN).symm)
      clear hN
      obtain ⟨q0, q1, q2, q3, q4, q5, q6⟩ := iCells hS1.r2
      go_upto_region 3 with (fail)
      clear q0 q1 q2 q3 q4 q5 q6
      try clear hc1
      try clear hc2
      refine wp_region_noPanic ?_
      refine wp_region_L (PS w.heap.size (w.heap.size + 1) p A m c) 24 hmx ?_
      have hdr := (Below.refl w1.heap.size w1).drew
      have hS2 : (PS w.heap.size (w.heap.size + 1) p A m c) w1.drew := hS1.below hdr
      have hb2 := bnext hb1 hdr
      clear hdr hS1 hb1
      generalize w1.drew = w2 at *
      refine wpAnyL_take (i := 0) (f0 := 26) (v := ?_) rfl (by decide +kernel) (by decide +kernel) (by decide +kernel) (by decide +kernel) (by decide +kernel) (fun _ _ _ h => h) (Or.inl ⟨by rfl, ?_⟩) hS2 ?_
      rotate_left
      · intro wS hS; go_simp; (try with_reducible rfl)
      simp only [Act.put, List.getElem_toArray, List.getElem_cons_zero, List.setIfInBounds_toArray, List.set_cons_succ, List.set_cons_zero]
      refine wpAnyL_take (i := 1) (f0 := 26) (v := ?_) rfl (by decide +kernel) (by decide +kernel) (by decide +kernel) (by decide +kernel) (by decide +kernel) (fun _ _ _ h => h) (Or.inl ⟨by rfl, ?_⟩) hS2 ?_
      rotate_left
      · intro wS hS; go_simp; (try with_reducible rfl)
      simp only [Act.put, List.getElem_toArray, List.getElem_cons_succ, List.getElem_cons_zero, List.setIfInBounds_toArray, List.set_cons_succ, List.set_cons_zero]
      refine wpAnyL_take (i := 2) (f0 := 26) (v := ?_) rfl (by decide +kernel) (by decide +kernel) (by decide +kernel) (by decide +kernel) (by decide +kernel) (fun _ _ _ h => h) (Or.inl ⟨by rfl, ?_⟩) hS2 ?_
      rotate_left
      · intro wS hS; go_simp; (try with_reducible rfl)
      simp only [Act.put, List.getElem_toArray, List.getElem_cons_succ, List.getElem_cons_zero, List.setIfInBounds_toArray, List.set_cons_succ, List.set_cons_zero]
      refine wpAnyL_take (i := 3) (f0 := 26) (v := ?_) rfl (by decide +kernel) (by decide +kernel) (by decide +kernel) (by decide +kernel) (by decide +kernel) (fun _ _ _ h => h) (Or.inl ⟨by rfl, ?_⟩) hS2 ?_
      rotate_left
      · intro wS hS; obtain ⟨q0, q1, q2, q3, q4, q5, q6⟩ := iCells hS.r2; go_simp; (try with_reducible rfl)
      simp only [Act.put, List.getElem_toArray, List.getElem_cons_succ, List.getElem_cons_zero, List.setIfInBounds_toArray, List.set_cons_succ, List.set_cons_zero]
      refine wpAnyL_take (i := 4) (f0 := 26) (v := ?_) rfl (by decide +kernel) (by decide +kernel) (by decide +kernel) (by decide +kernel) (by decide +kernel) (fun _ _ _ h => h) (Or.inl ⟨by rfl, ?_⟩) hS2 ?_
      rotate_left
      · intro wS hS; go_simp; (try with_reducible rfl)
      simp only [Act.put, List.getElem_toArray, List.getElem_cons_succ, List.getElem_cons_zero, List.setIfInBounds_toArray, List.set_cons_succ, List.set_cons_zero]
      refine wpAnyL_take (i := 5) (f0 := 26) (v := ?_) rfl (by decide +kernel) (by decide +kernel) (by decide +kernel) (by decide +kernel) (by decide +kernel) (fun _ _ _ h => h) (Or.inl ⟨by rfl, ?_⟩) hS2 ?_
      rotate_left
      · intro wS hS; go_simp; (try with_reducible rfl)
      simp only [Act.put, List.getElem_toArray, List.getElem_cons_succ, List.getElem_cons_zero, List.setIfInBounds_toArray, List.set_cons_succ, List.set_cons_zero]
      refine wpAnyL_take (i := 6) (f0 := 26) (v := ?_) rfl (by decide +kernel) (by decide +kernel) (by decide +kernel) (by decide +kernel) (by decide +kernel) (fun _ _ _ h => h) (Or.inl ⟨by rfl, ?_⟩) hS2 ?_
      rotate_left
      · intro wS hS; go_simp; (try with_reducible rfl)
      simp only [Act.put, List.getElem_toArray, List.getElem_cons_succ, List.getElem_cons_zero, List.setIfInBounds_toArray, List.set_cons_succ, List.set_cons_zero]
      refine wpAnyL_take (i := 7) (f0 := 26) (v := undef) rfl (by decide +kernel) (by decide +kernel) (by decide +kernel) (by decide +kernel) (by decide +kernel) (fun _ _ _ h => h) (Or.inr ⟨by rfl, rfl⟩) hS2 ?_
      simp only [Act.put, List.getElem_toArray, List.getElem_cons_succ, List.getElem_cons_zero, List.setIfInBounds_toArray, List.set_cons_succ, List.set_cons_zero]
      refine wpAnyL_take (i := 8) (f0 := 26) (v := undef) rfl (by decide +kernel) (by decide +kernel) (by decide +kernel) (by decide +kernel) (by decide +kernel) (fun _ _ _ h => h) (Or.inr ⟨by rfl, rfl⟩) hS2 ?_
      simp only [Act.put, List.getElem_toArray, List.getElem_cons_succ, List.getElem_cons_zero, List.setIfInBounds_toArray, List.set_cons_succ, List.set_cons_zero]
      refine wpAnyL_take (i := 9) (f0 := 26) (v := undef) rfl (by decide +kernel) (by decide +kernel) (by decide +kernel) (by decide +kernel) (by decide +kernel) (fun _ _ _ h => h) (Or.inr ⟨by rfl, rfl⟩) hS2 ?_
      simp only [Act.put, List.getElem_toArray, List.getElem_cons_succ, List.getElem_cons_zero, List.setIfInBounds_toArray, List.set_cons_succ, List.set_cons_zero]
      refine wpAnyL_take (i := 10) (f0 := 26) (v := ?_) rfl (by decide +kernel) (by decide +kernel) (by decide +kernel) (by decide +kernel) (by decide +kernel) (fun _ _ _ h => h) (Or.inl ⟨by rfl, ?_⟩) hS2 ?_
      rotate_left
      · intro wS hS; go_simp; (try with_reducible rfl)
      simp only [Act.put, List.getElem_toArray, List.getElem_cons_succ, List.getElem_cons_zero, List.setIfInBounds_toArray, List.set_cons_succ, List.set_cons_zero]
      refine wpAnyL_take (i := 11) (f0 := 26) (v := ?_) rfl (by decide +kernel) (by decide +kernel) (by decide +kernel) (by decide +kernel) (by decide +kernel) (fun _ _ _ h => h) (Or.inl ⟨by rfl, ?_⟩) hS2 ?_
      rotate_left
      · intro wS hS; go_simp; (try with_reducible rfl)
      simp only [Act.put, List.getElem_toArray, List.getElem_cons_succ, List.getElem_cons_zero, List.setIfInBounds_toArray, List.set_cons_succ, List.set_cons_zero]
      refine wpAnyL_take (i := 12) (f0 := 26) (v := undef) rfl (by decide +kernel) (by decide +kernel) (by decide +kernel) (by decide +kernel) (by decide +kernel) (fun _ _ _ h => h) (Or.inr ⟨by rfl, rfl⟩) hS2 ?_
      simp only [Act.put, List.getElem_toArray, List.getElem_cons_succ, List.getElem_cons_zero, List.setIfInBounds_toArray, List.set_cons_succ, List.set_cons_zero]
      refine wpAnyL_take (i := 13) (f0 := 26) (v := undef) rfl (by decide +kernel) (by decide +kernel) (by decide +kernel) (by decide +kernel) (by decide +kernel) (fun _ _ _ h => h) (Or.inr ⟨by rfl, rfl⟩) hS2 ?_
      simp only [Act.put, List.getElem_toArray, List.getElem_cons_succ, List.getElem_cons_zero, List.setIfInBounds_toArray, List.set_cons_succ, List.set_cons_zero]
      refine wpAnyL_take (i := 14) (f0 := 26) (v := undef) rfl (by decide +kernel) (by decide +kernel) (by decide +kernel) (by decide +kernel) (by decide +kernel) (fun _ _ _ h => h) (Or.inr ⟨by rfl, rfl⟩) hS2 ?_
      simp only [Act.put, List.getElem_toArray, List.getElem_cons_succ, List.getElem_cons_zero, List.setIfInBounds_toArray, List.set_cons_succ, List.set_cons_zero]
      refine wpAnyL_take (i := 15) (f0 := 26) (v := undef) rfl (by decide +kernel) (by decide +kernel) (by decide +kernel) (by decide +kernel) (by decide +kernel) (fun _ _ _ h => h) (Or.inr ⟨by rfl, rfl⟩) hS2 ?_
      simp only [Act.put, List.getElem_toArray, List.getElem_cons_succ, List.getElem_cons_zero, List.setIfInBounds_toArray, List.set_cons_succ, List.set_cons_zero]
      refine wpAnyL_take (i := 16) (f0 := 26) (v := undef) rfl (by decide +kernel) (by decide +kernel) (by decide +kernel) (by decide +kernel) (by decide +kernel) (fun _ _ _ h => h) (Or.inr ⟨by rfl, rfl⟩) hS2 ?_
      simp only [Act.put, List.getElem_toArray, List.getElem_cons_succ, List.getElem_cons_zero, List.setIfInBounds_toArray, List.set_cons_succ, List.set_cons_zero]
      refine wpAnyL_take (i := 17) (f0 := 26) (v := undef) rfl (by decide +kernel) (by decide +kernel) (by decide +kernel) (by decide +kernel) (by decide +kernel) (fun _ _ _ h => h) (Or.inr ⟨by rfl, rfl⟩) hS2 ?_
      simp only [Act.put, List.getElem_toArray, List.getElem_cons_succ, List.getElem_cons_zero, List.setIfInBounds_toArray, List.set_cons_succ, List.set_cons_zero]
      refine wpAnyL_take (i := 18) (f0 := 26) (v := undef) rfl (by decide +kernel) (by decide +kernel) (by decide +kernel) (by decide +kernel) (by decide +kernel) (fun _ _ _ h => h) (Or.inr ⟨by rfl, rfl⟩) hS2 ?_
      simp only [Act.put, List.getElem_toArray, List.getElem_cons_succ, List.getElem_cons_zero, List.setIfInBounds_toArray, List.set_cons_succ, List.set_cons_zero]
      refine wpAnyL_take (i := 19) (f0 := 26) (v := undef) rfl (by decide +kernel) (by decide +kernel) (by decide +kernel) (by decide +kernel) (by decide +kernel) (fun _ _ _ h => h) (Or.inr ⟨by rfl, rfl⟩) hS2 ?_
      simp only [Act.put, List.getElem_toArray, List.getElem_cons_succ, List.getElem_cons_zero, List.setIfInBounds_toArray, List.set_cons_succ, List.set_cons_zero]
      refine wpAnyL_take (i := 20) (f0 := 26) (v := undef) rfl (by decide +kernel) (by decide +kernel) (by decide +kernel) (by decide +kernel) (by decide +kernel) (fun _ _ _ h => h) (Or.inr ⟨by rfl, rfl⟩) hS2 ?_
      simp only [Act.put, List.getElem_toArray, List.getElem_cons_succ, List.getElem_cons_zero, List.setIfInBounds_toArray, List.set_cons_succ, List.set_cons_zero]
      refine wpAnyL_take (i := 21) (f0 := 26) (v := undef) rfl (by decide +kernel) (by decide +kernel) (by decide +kernel) (by decide +kernel) (by decide +kernel) (fun _ _ _ h => h) (Or.inr ⟨by rfl, rfl⟩) hS2 ?_
      simp only [Act.put, List.getElem_toArray, List.getElem_cons_succ, List.getElem_cons_zero, List.setIfInBounds_toArray, List.set_cons_succ, List.set_cons_zero]
      refine wpAnyL_take (i := 22) (f0 := 26) (v := ?_) rfl (by decide +kernel) (by decide +kernel) (by decide +kernel) (by decide +kernel) (by decide +kernel) (fun _ _ _ h => h) (Or.inl ⟨by rfl, ?_⟩) hS2 ?_
      rotate_left
      · intro wS hS; go_simp; (try with_reducible rfl)
      simp only [Act.put, List.getElem_toArray, List.getElem_cons_succ, List.getElem_cons_zero, List.setIfInBounds_toArray, List.set_cons_succ, List.set_cons_zero]
      refine wpAnyL_take (i := 23) (f0 := 26) (v := ?_) rfl (by decide +kernel) (by decide +kernel) (by decide +kernel) (by decide +kernel) (by decide +kernel) (fun _ _ _ h => h) (Or.inl ⟨by rfl, ?_⟩) hS2 ?_
      rotate_left
      · intro wS hS; go_simp; (try with_reducible rfl)
      simp only [Act.put, List.getElem_toArray, List.getElem_cons_succ, List.getElem_cons_zero, List.setIfInBounds_toArray, List.set_cons_succ, List.set_cons_zero]
      refine wpAnyL_done (by decide +kernel) ?_ _
      refine NoPanic.normal ?_
      go_wp2
      go_ret
      exact ⟨ret_bool E9.out, hb2⟩
    | true =>
      rw [hN] at hne
      have HNO := hide hN
      clear hN
      cases hg : p.it.gone with
      | true =>
        have E9 := hide (show false = R by rw [← HR.out]; exact (checkP_gone hg).symm)
        obtain ⟨q0, q1, q2, q3, q4, q5, q6⟩ := iCells hS1.r2
        go_upto_region 3 with (fail)
        clear q0 q1 q2 q3 q4 q5 q6
        try clear hc1
        try clear hc2
        refine wp_region_noPanic ?_
        refine wp_region_L (PS w.heap.size (w.heap.size + 1) p A m c) 24 hmx ?_
        have hdr := (Below.refl w1.heap.size w1).drew
        have hS2 : (PS w.heap.size (w.heap.size + 1) p A m c) w1.drew := hS1.below hdr
        have hb2 := bnext hb1 hdr
        clear hdr hS1 hb1
        generalize w1.drew = w2 at *
        refine wpAnyL_take (i := 0) (f0 := 26) (v := ?_) rfl (by decide +kernel) (by decide +kernel) (by decide +kernel) (by decide +kernel) (by decide +kernel) (fun _ _ _ h => h) (Or.inl ⟨by rfl, ?_⟩) hS2 ?_
        rotate_left
        · intro wS hS; go_simp; (try with_reducible rfl)
        simp only [Act.put, List.getElem_toArray, List.getElem_cons_zero, List.setIfInBounds_toArray, List.set_cons_succ, List.set_cons_zero]
        refine wpAnyL_take (i := 1) (f0 := 26) (v := ?_) rfl (by decide +kernel) (by decide +kernel) (by decide +kernel) (by decide +kernel) (by decide +kernel) (fun _ _ _ h => h) (Or.inl ⟨by rfl, ?_⟩) hS2 ?_
        rotate_left
        · intro wS hS; go_simp; (try with_reducible rfl)
        simp only [Act.put, List.getElem_toArray, List.getElem_cons_succ, List.getElem_cons_zero, List.setIfInBounds_toArray, List.set_cons_succ, List.set_cons_zero]
        refine wpAnyL_take (i := 2) (f0 := 26) (v := ?_) rfl (by decide +kernel) (by decide +kernel) (by decide +kernel) (by decide +kernel) (by decide +kernel) (fun _ _ _ h => h) (Or.inl ⟨by rfl, ?_⟩) hS2 ?_
        rotate_left
        · intro wS hS; go_simp; (try with_reducible rfl)
        simp only [Act.put, List.getElem_toArray, List.getElem_cons_succ, List.getElem_cons_zero, List.setIfInBounds_toArray, List.set_cons_succ, List.set_cons_zero]
        refine wpAnyL_take (i := 3) (f0 := 26) (v := ?_) rfl (by decide +kernel) (by decide +kernel) (by decide +kernel) (by decide +kernel) (by decide +kernel) (fun _ _ _ h => h) (Or.inl ⟨by rfl, ?_⟩) hS2 ?_
        rotate_left
        · intro wS hS; obtain ⟨q0, q1, q2, q3, q4, q5, q6⟩ := iCells hS.r2; go_simp; (try with_reducible rfl)
        simp only [Act.put, List.getElem_toArray, List.getElem_cons_succ, List.getElem_cons_zero, List.setIfInBounds_toArray, List.set_cons_succ, List.set_cons_zero]
        refine wpAnyL_take (i := 4) (f0 := 26) (v := ?_) rfl (by decide +kernel) (by decide +kernel) (by decide +kernel) (by decide +kernel) (by decide +kernel) (fun _ _ _ h => h) (Or.inl ⟨by rfl, ?_⟩) hS2 ?_
        rotate_left
        · intro wS hS; go_simp; (try with_reducible rfl)
        simp only [Act.put, List.getElem_toArray, List.getElem_cons_succ, List.getElem_cons_zero, List.setIfInBounds_toArray, List.set_cons_succ, List.set_cons_zero]
        refine wpAnyL_take (i := 5) (f0 := 26) (v := ?_) rfl (by decide +kernel) (by decide +kernel) (by decide +kernel) (by decide +kernel) (by decide +kernel) (fun _ _ _ h => h) (Or.inl ⟨by rfl, ?_⟩) hS2 ?_
        rotate_left
        · intro wS hS; go_simp; (try with_reducible rfl)
        simp only [Act.put, List.getElem_toArray, List.getElem_cons_succ, List.getElem_cons_zero, List.setIfInBounds_toArray, List.set_cons_succ, List.set_cons_zero]
        refine wpAnyL_take (i := 6) (f0 := 26) (v := ?_) rfl (by decide +kernel) (by decide +kernel) (by decide +kernel) (by decide +kernel) (by decide +kernel) (fun _ _ _ h => h) (Or.inl ⟨by rfl, ?_⟩) hS2 ?_
        rotate_left
        · intro wS hS; go_simp; (try with_reducible rfl)
        simp only [Act.put, List.getElem_toArray, List.getElem_cons_succ, List.getElem_cons_zero, List.setIfInBounds_toArray, List.set_cons_succ, List.set_cons_zero]
        refine wpAnyL_take (i := 7) (f0 := 26) (v := ?_) rfl (by decide +kernel) (by decide +kernel) (by decide +kernel) (by decide +kernel) (by decide +kernel) (fun _ _ _ h => h) (Or.inl ⟨by rfl, ?_⟩) hS2 ?_
        rotate_left
        · intro wS hS; go_simp; (try with_reducible rfl)
        simp only [Act.put, List.getElem_toArray, List.getElem_cons_succ, List.getElem_cons_zero, List.setIfInBounds_toArray, List.set_cons_succ, List.set_cons_zero]
        refine wpAnyL_take (i := 8) (f0 := 26) (v := ?_) rfl (by decide +kernel) (by decide +kernel) (by decide +kernel) (by decide +kernel) (by decide +kernel) (fun _ _ _ h => h) (Or.inl ⟨by rfl, ?_⟩) hS2 ?_
        rotate_left
        · intro wS hS; obtain ⟨q0, q1, q2, q3, q4, q5, q6⟩ := iCells hS.r2; go_simp; (try with_reducible rfl)
        simp only [Act.put, List.getElem_toArray, List.getElem_cons_succ, List.getElem_cons_zero, List.setIfInBounds_toArray, List.set_cons_succ, List.set_cons_zero]
        refine wpAnyL_take (i := 9) (f0 := 26) (v := ?_) rfl (by decide +kernel) (by decide +kernel) (by decide +kernel) (by decide +kernel) (by decide +kernel) (fun _ _ _ h => h) (Or.inl ⟨by rfl, ?_⟩) hS2 ?_
        rotate_left
        · intro wS hS; go_simp; (try with_reducible rfl)
        simp only [Act.put, List.getElem_toArray, List.getElem_cons_succ, List.getElem_cons_zero, List.setIfInBounds_toArray, List.set_cons_succ, List.set_cons_zero]
        refine wpAnyL_take (i := 10) (f0 := 26) (v := ?_) rfl (by decide +kernel) (by decide +kernel) (by decide +kernel) (by decide +kernel) (by decide +kernel) (fun _ _ _ h => h) (Or.inl ⟨by rfl, ?_⟩) hS2 ?_
        rotate_left
        · intro wS hS; go_simp; (try with_reducible rfl)
        simp only [Act.put, List.getElem_toArray, List.getElem_cons_succ, List.getElem_cons_zero, List.setIfInBounds_toArray, List.set_cons_succ, List.set_cons_zero]
        refine wpAnyL_take (i := 11) (f0 := 26) (v := ?_) rfl (by decide +kernel) (by decide +kernel) (by decide +kernel) (by decide +kernel) (by decide +kernel) (fun _ _ _ h => h) (Or.inl ⟨by rfl, ?_⟩) hS2 ?_
        rotate_left
        · intro wS hS; go_simp; (try with_reducible rfl)
        simp only [Act.put, List.getElem_toArray, List.getElem_cons_succ, List.getElem_cons_zero, List.setIfInBounds_toArray, List.set_cons_succ, List.set_cons_zero]
        refine wpAnyL_take (i := 12) (f0 := 26) (v := undef) rfl (by decide +kernel) (by decide +kernel) (by decide +kernel) (by decide +kernel) (by decide +kernel) (fun _ _ _ h => h) (Or.inr ⟨by rfl, rfl⟩) hS2 ?_
        simp only [Act.put, List.getElem_toArray, List.getElem_cons_succ, List.getElem_cons_zero, List.setIfInBounds_toArray, List.set_cons_succ, List.set_cons_zero]
        refine wpAnyL_take (i := 13) (f0 := 26) (v := undef) rfl (by decide +kernel) (by decide +kernel) (by decide +kernel) (by decide +kernel) (by decide +kernel) (fun _ _ _ h => h) (Or.inr ⟨by rfl, rfl⟩) hS2 ?_
        simp only [Act.put, List.getElem_toArray, List.getElem_cons_succ, List.getElem_cons_zero, List.setIfInBounds_toArray, List.set_cons_succ, List.set_cons_zero]
        refine wpAnyL_take (i := 14) (f0 := 26) (v := undef) rfl (by decide +kernel) (by decide +kernel) (by decide +kernel) (by decide +kernel) (by decide +kernel) (fun _ _ _ h => h) (Or.inr ⟨by rfl, rfl⟩) hS2 ?_
        simp only [Act.put, List.getElem_toArray, List.getElem_cons_succ, List.getElem_cons_zero, List.setIfInBounds_toArray, List.set_cons_succ, List.set_cons_zero]
        refine wpAnyL_take (i := 15) (f0 := 26) (v := undef) rfl (by decide +kernel) (by decide +kernel) (by decide +kernel) (by decide +kernel) (by decide +kernel) (fun _ _ _ h => h) (Or.inr ⟨by rfl, rfl⟩) hS2 ?_
        simp only [Act.put, List.getElem_toArray, List.getElem_cons_succ, List.getElem_cons_zero, List.setIfInBounds_toArray, List.set_cons_succ, List.set_cons_zero]
        refine wpAnyL_take (i := 16) (f0 := 26) (v := undef) rfl (by decide +kernel) (by decide +kernel) (by decide +kernel) (by decide +kernel) (by decide +kernel) (fun _ _ _ h => h) (Or.inr ⟨by rfl, rfl⟩) hS2 ?_
        simp only [Act.put, List.getElem_toArray, List.getElem_cons_succ, List.getElem_cons_zero, List.setIfInBounds_toArray, List.set_cons_succ, List.set_cons_zero]
        refine wpAnyL_take (i := 17) (f0 := 26) (v := undef) rfl (by decide +kernel) (by decide +kernel) (by decide +kernel) (by decide +kernel) (by decide +kernel) (fun _ _ _ h => h) (Or.inr ⟨by rfl, rfl⟩) hS2 ?_
        simp only [Act.put, List.getElem_toArray, List.getElem_cons_succ, List.getElem_cons_zero, List.setIfInBounds_toArray, List.set_cons_succ, List.set_cons_zero]
        refine wpAnyL_take (i := 18) (f0 := 26) (v := undef) rfl (by decide +kernel) (by decide +kernel) (by decide +kernel) (by decide +kernel) (by decide +kernel) (fun _ _ _ h => h) (Or.inr ⟨by rfl, rfl⟩) hS2 ?_
        simp only [Act.put, List.getElem_toArray, List.getElem_cons_succ, List.getElem_cons_zero, List.setIfInBounds_toArray, List.set_cons_succ, List.set_cons_zero]
        refine wpAnyL_take (i := 19) (f0 := 26) (v := undef) rfl (by decide +kernel) (by decide +kernel) (by decide +kernel) (by decide +kernel) (by decide +kernel) (fun _ _ _ h => h) (Or.inr ⟨by rfl, rfl⟩) hS2 ?_
        simp only [Act.put, List.getElem_toArray, List.getElem_cons_succ, List.getElem_cons_zero, List.setIfInBounds_toArray, List.set_cons_succ, List.set_cons_zero]
        refine wpAnyL_take (i := 20) (f0 := 26) (v := undef) rfl (by decide +kernel) (by decide +kernel) (by decide +kernel) (by decide +kernel) (by decide +kernel) (fun _ _ _ h => h) (Or.inr ⟨by rfl, rfl⟩) hS2 ?_
        simp only [Act.put, List.getElem_toArray, List.getElem_cons_succ, List.getElem_cons_zero, List.setIfInBounds_toArray, List.set_cons_succ, List.set_cons_zero]
        refine wpAnyL_take (i := 21) (f0 := 26) (v := undef) rfl (by decide +kernel) (by decide +kernel) (by decide +kernel) (by decide +kernel) (by decide +kernel) (fun _ _ _ h => h) (Or.inr ⟨by rfl, rfl⟩) hS2 ?_
        simp only [Act.put, List.getElem_toArray, List.getElem_cons_succ, List.getElem_cons_zero, List.setIfInBounds_toArray, List.set_cons_succ, List.set_cons_zero]
        refine wpAnyL_take (i := 22) (f0 := 26) (v := ?_) rfl (by decide +kernel) (by decide +kernel) (by decide +kernel) (by decide +kernel) (by decide +kernel) (fun _ _ _ h => h) (Or.inl ⟨by rfl, ?_⟩) hS2 ?_
        rotate_left
        · intro wS hS; go_simp; (try with_reducible rfl)
        simp only [Act.put, List.getElem_toArray, List.getElem_cons_succ, List.getElem_cons_zero, List.setIfInBounds_toArray, List.set_cons_succ, List.set_cons_zero]
        refine wpAnyL_take (i := 23) (f0 := 26) (v := ?_) rfl (by decide +kernel) (by decide +kernel) (by decide +kernel) (by decide +kernel) (by decide +kernel) (fun _ _ _ h => h) (Or.inl ⟨by rfl, ?_⟩) hS2 ?_
        rotate_left
        · intro wS hS; go_simp; (try with_reducible rfl)
        simp only [Act.put, List.getElem_toArray, List.getElem_cons_succ, List.getElem_cons_zero, List.setIfInBounds_toArray, List.set_cons_succ, List.set_cons_zero]
        refine wpAnyL_done (by decide +kernel) ?_ _
        refine NoPanic.normal ?_
        go_wp2
        go_ret
        exact ⟨ret_bool E9.out, hb2⟩
      | false =>
        obtain ⟨q0, q1, q2, q3, q4, q5, q6⟩ := iCells hS1.r2
        go_upto_region 3 with (fail)
        clear q0 q1 q2 q3 q4 q5 q6
        try clear hc1
        try clear hc2
        refine wp_region_noPanic ?_
        refine wp_region_L (PS w.heap.size (w.heap.size + 1) p A m c) 24 hmx ?_
        have hdr := (Below.refl w1.heap.size w1).drew
        have hS2 : (PS w.heap.size (w.heap.size + 1) p A m c) w1.drew := hS1.below hdr
        have hb2 := bnext hb1 hdr
        clear hdr hS1 hb1
        generalize w1.drew = w2 at *
        obtain ⟨LF, hLF⟩ : ∃ K, Dg.leafI p.it = K := ⟨_, rfl⟩
        have HKZ := hide (show LF.size ≤ 1048576 by rw [← hLF]; exact leafI_size2 HZ.out)
        have HC := hide (show checkB root p.count p.idx LF p.path = R by rw [← HR.out, checkP_rest HKO.out HNO.out hg, hLF])
        have HLF := hide hLF
        clear hLF
        refine wpAnyL_take (i := 0) (f0 := 26) (v := ?_) rfl (by decide +kernel) (by decide +kernel) (by decide +kernel) (by decide +kernel) (by decide +kernel) (fun _ _ _ h => h) (Or.inl ⟨by rfl, ?_⟩) hS2 ?_
        rotate_left
        · intro wS hS; go_simp; (try with_reducible rfl)
        simp only [Act.put, List.getElem_toArray, List.getElem_cons_zero, List.setIfInBounds_toArray, List.set_cons_succ, List.set_cons_zero]
        refine wpAnyL_take (i := 1) (f0 := 26) (v := ?_) rfl (by decide +kernel) (by decide +kernel) (by decide +kernel) (by decide +kernel) (by decide +kernel) (fun _ _ _ h => h) (Or.inl ⟨by rfl, ?_⟩) hS2 ?_
        rotate_left
        · intro wS hS; go_simp; (try with_reducible rfl)
        simp only [Act.put, List.getElem_toArray, List.getElem_cons_succ, List.getElem_cons_zero, List.setIfInBounds_toArray, List.set_cons_succ, List.set_cons_zero]
        refine wpAnyL_take (i := 2) (f0 := 26) (v := ?_) rfl (by decide +kernel) (by decide +kernel) (by decide +kernel) (by decide +kernel) (by decide +kernel) (fun _ _ _ h => h) (Or.inl ⟨by rfl, ?_⟩) hS2 ?_
        rotate_left
        · intro wS hS; go_simp; (try with_reducible rfl)
        simp only [Act.put, List.getElem_toArray, List.getElem_cons_succ, List.getElem_cons_zero, List.setIfInBounds_toArray, List.set_cons_succ, List.set_cons_zero]
        refine wpAnyL_take (i := 3) (f0 := 26) (v := ?_) rfl (by decide +kernel) (by decide +kernel) (by decide +kernel) (by decide +kernel) (by decide +kernel) (fun _ _ _ h => h) (Or.inl ⟨by rfl, ?_⟩) hS2 ?_
        rotate_left
        · intro wS hS; obtain ⟨q0, q1, q2, q3, q4, q5, q6⟩ := iCells hS.r2; go_simp; (try with_reducible rfl)
        simp only [Act.put, List.getElem_toArray, List.getElem_cons_succ, List.getElem_cons_zero, List.setIfInBounds_toArray, List.set_cons_succ, List.set_cons_zero]
        refine wpAnyL_take (i := 4) (f0 := 26) (v := ?_) rfl (by decide +kernel) (by decide +kernel) (by decide +kernel) (by decide +kernel) (by decide +kernel) (fun _ _ _ h => h) (Or.inl ⟨by rfl, ?_⟩) hS2 ?_
        rotate_left
        · intro wS hS; go_simp; (try with_reducible rfl)
        simp only [Act.put, List.getElem_toArray, List.getElem_cons_succ, List.getElem_cons_zero, List.setIfInBounds_toArray, List.set_cons_succ, List.set_cons_zero]
        refine wpAnyL_take (i := 5) (f0 := 26) (v := ?_) rfl (by decide +kernel) (by decide +kernel) (by decide +kernel) (by decide +kernel) (by decide +kernel) (fun _ _ _ h => h) (Or.inl ⟨by rfl, ?_⟩) hS2 ?_
        rotate_left
        · intro wS hS; go_simp; (try with_reducible rfl)
        simp only [Act.put, List.getElem_toArray, List.getElem_cons_succ, List.getElem_cons_zero, List.setIfInBounds_toArray, List.set_cons_succ, List.set_cons_zero]
        refine wpAnyL_take (i := 6) (f0 := 26) (v := ?_) rfl (by decide +kernel) (by decide +kernel) (by decide +kernel) (by decide +kernel) (by decide +kernel) (fun _ _ _ h => h) (Or.inl ⟨by rfl, ?_⟩) hS2 ?_
        rotate_left
        · intro wS hS; go_simp; (try with_reducible rfl)
        simp only [Act.put, List.getElem_toArray, List.getElem_cons_succ, List.getElem_cons_zero, List.setIfInBounds_toArray, List.set_cons_succ, List.set_cons_zero]
        refine wpAnyL_take (i := 7) (f0 := 26) (v := ?_) rfl (by decide +kernel) (by decide +kernel) (by decide +kernel) (by decide +kernel) (by decide +kernel) (fun _ _ _ h => h) (Or.inl ⟨by rfl, ?_⟩) hS2 ?_
        rotate_left
        · intro wS hS; go_simp; (try with_reducible rfl)
        simp only [Act.put, List.getElem_toArray, List.getElem_cons_succ, List.getElem_cons_zero, List.setIfInBounds_toArray, List.set_cons_succ, List.set_cons_zero]
        refine wpAnyL_take (i := 8) (f0 := 26) (v := ?_) rfl (by decide +kernel) (by decide +kernel) (by decide +kernel) (by decide +kernel) (by decide +kernel) (fun _ _ _ h => h) (Or.inl ⟨by rfl, ?_⟩) hS2 ?_
        rotate_left
        · intro wS hS; obtain ⟨q0, q1, q2, q3, q4, q5, q6⟩ := iCells hS.r2; go_simp; (try with_reducible rfl)
        simp only [Act.put, List.getElem_toArray, List.getElem_cons_succ, List.getElem_cons_zero, List.setIfInBounds_toArray, List.set_cons_succ, List.set_cons_zero]
        refine wpAnyL_take (i := 9) (f0 := 26) (v := ?_) rfl (by decide +kernel) (by decide +kernel) (by decide +kernel) (by decide +kernel) (by decide +kernel) (fun _ _ _ h => h) (Or.inl ⟨by rfl, ?_⟩) hS2 ?_
        rotate_left
        · intro wS hS; go_simp; (try with_reducible rfl)
        simp only [Act.put, List.getElem_toArray, List.getElem_cons_succ, List.getElem_cons_zero, List.setIfInBounds_toArray, List.set_cons_succ, List.set_cons_zero]
        refine wpAnyL_take (i := 10) (f0 := 26) (v := ?_) rfl (by decide +kernel) (by decide +kernel) (by decide +kernel) (by decide +kernel) (by decide +kernel) (fun _ _ _ h => h) (Or.inl ⟨by rfl, ?_⟩) hS2 ?_
        rotate_left
        · intro wS hS; go_simp; (try with_reducible rfl)
        simp only [Act.put, List.getElem_toArray, List.getElem_cons_succ, List.getElem_cons_zero, List.setIfInBounds_toArray, List.set_cons_succ, List.set_cons_zero]
        refine wpAnyL_take (i := 11) (f0 := 26) (v := ?_) rfl (by decide +kernel) (by decide +kernel) (by decide +kernel) (by decide +kernel) (by decide +kernel) (fun _ _ _ h => h) (Or.inl ⟨by rfl, ?_⟩) hS2 ?_
        rotate_left
        · intro wS hS; go_simp; (try with_reducible rfl)
        simp only [Act.put, List.getElem_toArray, List.getElem_cons_succ, List.getElem_cons_zero, List.setIfInBounds_toArray, List.set_cons_succ, List.set_cons_zero]
        refine wpAnyL_take (i := 12) (f0 := 26) (v := ?_) rfl (by decide +kernel) (by decide +kernel) (by decide +kernel) (by decide +kernel) (by decide +kernel) (fun _ _ _ h => h) (Or.inl ⟨by rfl, ?_⟩) hS2 ?_
        rotate_left
        · intro wS hS; go_simp; (try with_reducible rfl)
        simp only [Act.put, List.getElem_toArray, List.getElem_cons_succ, List.getElem_cons_zero, List.setIfInBounds_toArray, List.set_cons_succ, List.set_cons_zero]
        refine wpAnyL_take (i := 13) (f0 := 26) (v := ?_) rfl (by decide +kernel) (by decide +kernel) (by decide +kernel) (by decide +kernel) (by decide +kernel) (fun _ _ _ h => h) (Or.inl ⟨by rfl, ?_⟩) hS2 ?_
        rotate_left
        · intro wS hS; go_simp; (try with_reducible rfl)
        simp only [Act.put, List.getElem_toArray, List.getElem_cons_succ, List.getElem_cons_zero, List.setIfInBounds_toArray, List.set_cons_succ, List.set_cons_zero]
        refine wpAnyL_take (i := 14) (f0 := 26) (v := ?_) rfl (by decide +kernel) (by decide +kernel) (by decide +kernel) (by decide +kernel) (by decide +kernel) (fun _ _ _ h => h) (Or.inl ⟨by rfl, ?_⟩) hS2 ?_
        rotate_left
        · intro wS hS; obtain ⟨q0, q1, q2, q3, q4, q5, q6, q7, q8, q9⟩ := jCells10 hS.r1; go_simp; (try with_reducible rfl)
        simp only [Act.put, List.getElem_toArray, List.getElem_cons_succ, List.getElem_cons_zero, List.setIfInBounds_toArray, List.set_cons_succ, List.set_cons_zero]
        refine wpAnyL_take (i := 15) (f0 := 26) (v := ?_) rfl (by decide +kernel) (by decide +kernel) (by decide +kernel) (by decide +kernel) (by decide +kernel) (fun _ _ _ h => h) (Or.inl ⟨by rfl, ?_⟩) hS2 ?_
        rotate_left
        · intro wS hS; go_simp; (try with_reducible rfl)
        simp only [Act.put, List.getElem_toArray, List.getElem_cons_succ, List.getElem_cons_zero, List.setIfInBounds_toArray, List.set_cons_succ, List.set_cons_zero]
        refine wpAnyL_take (i := 16) (f0 := 26) (v := ?_) rfl (by decide +kernel) (by decide +kernel) (by decide +kernel) (by decide +kernel) (by decide +kernel) (fun _ _ _ h => h) (Or.inl ⟨by rfl, ?_⟩) hS2 ?_
        rotate_left
        · intro wS hS; obtain ⟨q0, q1, q2, q3, q4, q5, q6, q7, q8, q9⟩ := jCells10 hS.r1; go_simp; (try with_reducible rfl)
        simp only [Act.put, List.getElem_toArray, List.getElem_cons_succ, List.getElem_cons_zero, List.setIfInBounds_toArray, List.set_cons_succ, List.set_cons_zero]
        refine wpAnyL_take (i := 17) (f0 := 26) (v := ?_) rfl (by decide +kernel) (by decide +kernel) (by decide +kernel) (by decide +kernel) (by decide +kernel) (fun _ _ _ h => h) (Or.inl ⟨by rfl, ?_⟩) hS2 ?_
        rotate_left
        · intro wS hS; obtain ⟨q0, q1, q2, q3, q4, q5, q6⟩ := iCells hS.r2; go_simp; (try with_reducible rfl)
        simp only [Act.put, List.getElem_toArray, List.getElem_cons_succ, List.getElem_cons_zero, List.setIfInBounds_toArray, List.set_cons_succ, List.set_cons_zero]
        refine wpAnyL_take (i := 19) (f0 := 26) (v := ?_) rfl (by decide +kernel) (by decide +kernel) (by decide +kernel) (by decide +kernel) (by decide +kernel) (fun _ _ _ h => h) (Or.inl ⟨by rfl, ?_⟩) hS2 ?_
        rotate_left
        · intro wS hS; go_simp; (try with_reducible rfl)
        simp only [Act.put, List.getElem_toArray, List.getElem_cons_succ, List.getElem_cons_zero, List.setIfInBounds_toArray, List.set_cons_succ, List.set_cons_zero]
        refine wpAnyL_take (i := 20) (f0 := 26) (v := ?_) rfl (by decide +kernel) (by decide +kernel) (by decide +kernel) (by decide +kernel) (by decide +kernel) (fun _ _ _ h => h) (Or.inl ⟨by rfl, ?_⟩) hS2 ?_
        rotate_left
        · intro wS hS; obtain ⟨q0, q1, q2, q3, q4, q5, q6, q7, q8, q9⟩ := jCells10 hS.r1; go_simp; (try with_reducible rfl)
        simp only [Act.put, List.getElem_toArray, List.getElem_cons_succ, List.getElem_cons_zero, List.setIfInBounds_toArray, List.set_cons_succ, List.set_cons_zero]
        refine wpAnyL_one (i := 18) (by decide +kernel) (by rfl) (fun K hK => ?_)
        rw [if_pos (by rfl)]
        go_simp
        refine (pleaf_g p.it false (fun s hs => Nat.le_trans (HZ.out s hs) (by decide)) w2 (HE.out.next hb2) LF HLF.out).mono ?_
        rintro e w3 ⟨rfl, hx3⟩
        have hS3 : (PS w.heap.size (w.heap.size + 1) p A m c) w3 := hS2.below hx3
        have hb3 := bnext hb2 hx3
        refine hK.out _ _ (Or.inr hS3) ?_
        clear hK K hS2 hb2 hx3
        try simp only [Act.put, List.getElem_toArray, List.getElem_cons_succ, List.getElem_cons_zero, List.setIfInBounds_toArray, List.set_cons_succ, List.set_cons_zero]
        refine wpAnyL_one (i := 21) (by decide +kernel) (by rfl) (fun K hK => ?_)
        rw [if_pos (by rfl)]
        go_simp
        refine (check_of root p.count p.idx LF A c m p.path R HC.out w3 (HE.out.next hb3) HM.out hm2 (fun s hs => Nat.le_trans (HPS.out s hs) (by decide)) (by have := HKZ.out; omega) hS3.path).mono ?_
        rintro e w4 ⟨rfl, hx4⟩
        have hS4 : (PS w.heap.size (w.heap.size + 1) p A m c) w4 := hS3.below hx4
        have hb4 := bnext hb3 hx4
        refine hK.out _ _ (Or.inr hS4) ?_
        clear hK K hS3 hb3 hx4
        try simp only [Act.put, List.getElem_toArray, List.getElem_cons_succ, List.getElem_cons_zero, List.setIfInBounds_toArray, List.set_cons_succ, List.set_cons_zero]
        refine wpAnyL_take (i := 22) (f0 := 26) (v := ?_) rfl (by decide +kernel) (by decide +kernel) (by decide +kernel) (by decide +kernel) (by decide +kernel) (fun _ _ _ h => h) (Or.inl ⟨by rfl, ?_⟩) hS4 ?_
        rotate_left
        · intro wS hS; go_simp; (try with_reducible rfl)
        simp only [Act.put, List.getElem_toArray, List.getElem_cons_succ, List.getElem_cons_zero, List.setIfInBounds_toArray, List.set_cons_succ, List.set_cons_zero]
        refine wpAnyL_take (i := 23) (f0 := 26) (v := ?_) rfl (by decide +kernel) (by decide +kernel) (by decide +kernel) (by decide +kernel) (by decide +kernel) (fun _ _ _ h => h) (Or.inl ⟨by rfl, ?_⟩) hS4 ?_
        rotate_left
        · intro wS hS; go_simp; (try with_reducible rfl)
        simp only [Act.put, List.getElem_toArray, List.getElem_cons_succ, List.getElem_cons_zero, List.setIfInBounds_toArray, List.set_cons_succ, List.set_cons_zero]
        refine wpAnyL_done (by decide +kernel) ?_ _
        refine NoPanic.normal ?_
        go_wp2
        go_ret
        exact ⟨rfl, hb4⟩
  · have kb2 : (p.it.kind == 2) = false := beq_eq_false_iff_ne.2 k2
    clear k2
    by_cases k1 : p.it.kind = 1
    · have kb1 : (p.it.kind == 1) = true := beq_iff_eq.2 k1
      clear k1
      have HKO := hide (show kindOk p.it = true by unfold kindOk; rw [kb2, kb1, Bool.or_true])
      cases hN : decide (p.it.number = Dg.nil8) with
      | false =>
        rw [hN] at hne
        have E9 := hide (show false = R by rw [← HR.out]; exact (checkP_num hN).symm)
        clear hN
        obtain ⟨q0, q1, q2, q3, q4, q5, q6⟩ := iCells hS1.r2
        go_upto_region 3 with (fail)
        clear q0 q1 q2 q3 q4 q5 q6
        try clear hc1
        try clear hc2
        refine wp_region_noPanic ?_
        refine wp_region_L (PS w.heap.size (w.heap.size + 1) p A m c) 24 hmx ?_
        have hdr := (Below.refl w1.heap.size w1).drew
        have hS2 : (PS w.heap.size (w.heap.size + 1) p A m c) w1.drew := hS1.below hdr
        have hb2 := bnext hb1 hdr
        clear hdr hS1 hb1
        generalize w1.drew = w2 at *
        refine wpAnyL_take (i := 0) (f0 := 26) (v := ?_) rfl (by decide +kernel) (by decide +kernel) (by decide +kernel) (by decide +kernel) (by decide +kernel) (fun _ _ _ h => h) (Or.inl ⟨by rfl, ?_⟩) hS2 ?_
        rotate_left
        · intro wS hS; go_simp; (try with_reducible rfl)
        simp only [Act.put, List.getElem_toArray, List.getElem_cons_zero, List.setIfInBounds_toArray, List.set_cons_succ, List.set_cons_zero]
        refine wpAnyL_take (i := 1) (f0 := 26) (v := ?_) rfl (by decide +kernel) (by decide +kernel) (by decide +kernel) (by decide +kernel) (by decide +kernel) (fun _ _ _ h => h) (Or.inl ⟨by rfl, ?_⟩) hS2 ?_
        rotate_left
        · intro wS hS; go_simp; (try with_reducible rfl)
        simp only [Act.put, List.getElem_toArray, List.getElem_cons_succ, List.getElem_cons_zero, List.setIfInBounds_toArray, List.set_cons_succ, List.set_cons_zero]
        refine wpAnyL_take (i := 2) (f0 := 26) (v := ?_) rfl (by decide +kernel) (by decide +kernel) (by decide +kernel) (by decide +kernel) (by decide +kernel) (fun _ _ _ h => h) (Or.inl ⟨by rfl, ?_⟩) hS2 ?_
        rotate_left
        · intro wS hS; go_simp; (try with_reducible rfl)
        simp only [Act.put, List.getElem_toArray, List.getElem_cons_succ, List.getElem_cons_zero, List.setIfInBounds_toArray, List.set_cons_succ, List.set_cons_zero]
        refine wpAnyL_take (i := 3) (f0 := 26) (v := ?_) rfl (by decide +kernel) (by decide +kernel) (by decide +kernel) (by decide +kernel) (by decide +kernel) (fun _ _ _ h => h) (Or.inl ⟨by rfl, ?_⟩) hS2 ?_
        rotate_left
        · intro wS hS; obtain ⟨q0, q1, q2, q3, q4, q5, q6⟩ := iCells hS.r2; go_simp; (try with_reducible rfl)
        simp only [Act.put, List.getElem_toArray, List.getElem_cons_succ, List.getElem_cons_zero, List.setIfInBounds_toArray, List.set_cons_succ, List.set_cons_zero]
        refine wpAnyL_take (i := 4) (f0 := 26) (v := ?_) rfl (by decide +kernel) (by decide +kernel) (by decide +kernel) (by decide +kernel) (by decide +kernel) (fun _ _ _ h => h) (Or.inl ⟨by rfl, ?_⟩) hS2 ?_
        rotate_left
        · intro wS hS; go_simp; (try with_reducible rfl)
        simp only [Act.put, List.getElem_toArray, List.getElem_cons_succ, List.getElem_cons_zero, List.setIfInBounds_toArray, List.set_cons_succ, List.set_cons_zero]
        refine wpAnyL_take (i := 5) (f0 := 26) (v := ?_) rfl (by decide +kernel) (by decide +kernel) (by decide +kernel) (by decide +kernel) (by decide +kernel) (fun _ _ _ h => h) (Or.inl ⟨by rfl, ?_⟩) hS2 ?_
        rotate_left
        · intro wS hS; go_simp; (try with_reducible rfl)
        simp only [Act.put, List.getElem_toArray, List.getElem_cons_succ, List.getElem_cons_zero, List.setIfInBounds_toArray, List.set_cons_succ, List.set_cons_zero]
        refine wpAnyL_take (i := 6) (f0 := 26) (v := ?_) rfl (by decide +kernel) (by decide +kernel) (by decide +kernel) (by decide +kernel) (by decide +kernel) (fun _ _ _ h => h) (Or.inl ⟨by rfl, ?_⟩) hS2 ?_
        rotate_left
        · intro wS hS; go_simp; (try with_reducible rfl)
        simp only [Act.put, List.getElem_toArray, List.getElem_cons_succ, List.getElem_cons_zero, List.setIfInBounds_toArray, List.set_cons_succ, List.set_cons_zero]
        refine wpAnyL_take (i := 7) (f0 := 26) (v := undef) rfl (by decide +kernel) (by decide +kernel) (by decide +kernel) (by decide +kernel) (by decide +kernel) (fun _ _ _ h => h) (Or.inr ⟨by rfl, rfl⟩) hS2 ?_
        simp only [Act.put, List.getElem_toArray, List.getElem_cons_succ, List.getElem_cons_zero, List.setIfInBounds_toArray, List.set_cons_succ, List.set_cons_zero]
        refine wpAnyL_take (i := 8) (f0 := 26) (v := undef) rfl (by decide +kernel) (by decide +kernel) (by decide +kernel) (by decide +kernel) (by decide +kernel) (fun _ _ _ h => h) (Or.inr ⟨by rfl, rfl⟩) hS2 ?_
        simp only [Act.put, List.getElem_toArray, List.getElem_cons_succ, List.getElem_cons_zero, List.setIfInBounds_toArray, List.set_cons_succ, List.set_cons_zero]
        refine wpAnyL_take (i := 9) (f0 := 26) (v := undef) rfl (by decide +kernel) (by decide +kernel) (by decide +kernel) (by decide +kernel) (by decide +kernel) (fun _ _ _ h => h) (Or.inr ⟨by rfl, rfl⟩) hS2 ?_
        simp only [Act.put, List.getElem_toArray, List.getElem_cons_succ, List.getElem_cons_zero, List.setIfInBounds_toArray, List.set_cons_succ, List.set_cons_zero]
        refine wpAnyL_take (i := 10) (f0 := 26) (v := ?_) rfl (by decide +kernel) (by decide +kernel) (by decide +kernel) (by decide +kernel) (by decide +kernel) (fun _ _ _ h => h) (Or.inl ⟨by rfl, ?_⟩) hS2 ?_
        rotate_left
        · intro wS hS; go_simp; (try with_reducible rfl)
        simp only [Act.put, List.getElem_toArray, List.getElem_cons_succ, List.getElem_cons_zero, List.setIfInBounds_toArray, List.set_cons_succ, List.set_cons_zero]
        refine wpAnyL_take (i := 11) (f0 := 26) (v := ?_) rfl (by decide +kernel) (by decide +kernel) (by decide +kernel) (by decide +kernel) (by decide +kernel) (fun _ _ _ h => h) (Or.inl ⟨by rfl, ?_⟩) hS2 ?_
        rotate_left
        · intro wS hS; go_simp; (try with_reducible rfl)
        simp only [Act.put, List.getElem_toArray, List.getElem_cons_succ, List.getElem_cons_zero, List.setIfInBounds_toArray, List.set_cons_succ, List.set_cons_zero]
        refine wpAnyL_take (i := 12) (f0 := 26) (v := undef) rfl (by decide +kernel) (by decide +kernel) (by decide +kernel) (by decide +kernel) (by decide +kernel) (fun _ _ _ h => h) (Or.inr ⟨by rfl, rfl⟩) hS2 ?_
        simp only [Act.put, List.getElem_toArray, List.getElem_cons_succ, List.getElem_cons_zero, List.setIfInBounds_toArray, List.set_cons_succ, List.set_cons_zero]
        refine wpAnyL_take (i := 13) (f0 := 26) (v := undef) rfl (by decide +kernel) (by decide +kernel) (by decide +kernel) (by decide +kernel) (by decide +kernel) (fun _ _ _ h => h) (Or.inr ⟨by rfl, rfl⟩) hS2 ?_
        simp only [Act.put, List.getElem_toArray, List.getElem_cons_succ, List.getElem_cons_zero, List.setIfInBounds_toArray, List.set_cons_succ, List.set_cons_zero]
        refine wpAnyL_take (i := 14) (f0 := 26) (v := undef) rfl (by decide +kernel) (by decide +kernel) (by decide +kernel) (by decide +kernel) (by decide +kernel) (fun _ _ _ h => h) (Or.inr ⟨by rfl, rfl⟩) hS2 ?_
        simp only [Act.put, List.getElem_toArray, List.getElem_cons_succ, List.getElem_cons_zero, List.setIfInBounds_toArray, List.set_cons_succ, List.set_cons_zero]
        refine wpAnyL_take (i := 15) (f0 := 26) (v := undef) rfl (by decide +kernel) (by decide +kernel) (by decide +kernel) (by decide +kernel) (by decide +kernel) (fun _ _ _ h => h) (Or.inr ⟨by rfl, rfl⟩) hS2 ?_
        simp only [Act.put, List.getElem_toArray, List.getElem_cons_succ, List.getElem_cons_zero, List.setIfInBounds_toArray, List.set_cons_succ, List.set_cons_zero]
        refine wpAnyL_take (i := 16) (f0 := 26) (v := undef) rfl (by decide +kernel) (by decide +kernel) (by decide +kernel) (by decide +kernel) (by decide +kernel) (fun _ _ _ h => h) (Or.inr ⟨by rfl, rfl⟩) hS2 ?_
        simp only [Act.put, List.getElem_toArray, List.getElem_cons_succ, List.getElem_cons_zero, List.setIfInBounds_toArray, List.set_cons_succ, List.set_cons_zero]
        refine wpAnyL_take (i := 17) (f0 := 26) (v := undef) rfl (by decide +kernel) (by decide +kernel) (by decide +kernel) (by decide +kernel) (by decide +kernel) (fun _ _ _ h => h) (Or.inr ⟨by rfl, rfl⟩) hS2 ?_
        simp only [Act.put, List.getElem_toArray, List.getElem_cons_succ, List.getElem_cons_zero, List.setIfInBounds_toArray, List.set_cons_succ, List.set_cons_zero]
        refine wpAnyL_take (i := 18) (f0 := 26) (v := undef) rfl (by decide +kernel) (by decide +kernel) (by decide +kernel) (by decide +kernel) (by decide +kernel) (fun _ _ _ h => h) (Or.inr ⟨by rfl, rfl⟩) hS2 ?_
        simp only [Act.put, List.getElem_toArray, List.getElem_cons_succ, List.getElem_cons_zero, List.setIfInBounds_toArray, List.set_cons_succ, List.set_cons_zero]
        refine wpAnyL_take (i := 19) (f0 := 26) (v := undef) rfl (by decide +kernel) (by decide +kernel) (by decide +kernel) (by decide +kernel) (by decide +kernel) (fun _ _ _ h => h) (Or.inr ⟨by rfl, rfl⟩) hS2 ?_
        simp only [Act.put, List.getElem_toArray, List.getElem_cons_succ, List.getElem_cons_zero, List.setIfInBounds_toArray, List.set_cons_succ, List.set_cons_zero]
        refine wpAnyL_take (i := 20) (f0 := 26) (v := undef) rfl (by decide +kernel) (by decide +kernel) (by decide +kernel) (by decide +kernel) (by decide +kernel) (fun _ _ _ h => h) (Or.inr ⟨by rfl, rfl⟩) hS2 ?_
        simp only [Act.put, List.getElem_toArray, List.getElem_cons_succ, List.getElem_cons_zero, List.setIfInBounds_toArray, List.set_cons_succ, List.set_cons_zero]
        refine wpAnyL_take (i := 21) (f0 := 26) (v := undef) rfl (by decide +kernel) (by decide +kernel) (by decide +kernel) (by decide +kernel) (by decide +kernel) (fun _ _ _ h => h) (Or.inr ⟨by rfl, rfl⟩) hS2 ?_
        simp only [Act.put, List.getElem_toArray, List.getElem_cons_succ, List.getElem_cons_zero, List.setIfInBounds_toArray, List.set_cons_succ, List.set_cons_zero]
        refine wpAnyL_take (i := 22) (f0 := 26) (v := ?_) rfl (by decide +kernel) (by decide +kernel) (by decide +kernel) (by decide +kernel) (by decide +kernel) (fun _ _ _ h => h) (Or.inl ⟨by rfl, ?_⟩) hS2 ?_
        rotate_left
        · intro wS hS; go_simp; (try with_reducible rfl)
        simp only [Act.put, List.getElem_toArray, List.getElem_cons_succ, List.getElem_cons_zero, List.setIfInBounds_toArray, List.set_cons_succ, List.set_cons_zero]
        refine wpAnyL_take (i := 23) (f0 := 26) (v := ?_) rfl (by decide +kernel) (by decide +kernel) (by decide +kernel) (by decide +kernel) (by decide +kernel) (fun _ _ _ h => h) (Or.inl ⟨by rfl, ?_⟩) hS2 ?_
        rotate_left
        · intro wS hS; go_simp; (try with_reducible rfl)
        simp only [Act.put, List.getElem_toArray, List.getElem_cons_succ, List.getElem_cons_zero, List.setIfInBounds_toArray, List.set_cons_succ, List.set_cons_zero]
        refine wpAnyL_done (by decide +kernel) ?_ _
        refine NoPanic.normal ?_
        go_wp2
        go_ret
        exact ⟨ret_bool E9.out, hb2⟩
      | true =>
        rw [hN] at hne
        have HNO := hide hN
        clear hN
        cases hg : p.it.gone with
        | true =>
          have E9 := hide (show false = R by rw [← HR.out]; exact (checkP_gone hg).symm)
          obtain ⟨q0, q1, q2, q3, q4, q5, q6⟩ := iCells hS1.r2
          go_upto_region 3 with (fail)
          clear q0 q1 q2 q3 q4 q5 q6
          try clear hc1
          try clear hc2
          refine wp_region_noPanic ?_
          refine wp_region_L (PS w.heap.size (w.heap.size + 1) p A m c) 24 hmx ?_
          have hdr := (Below.refl w1.heap.size w1).drew
          have hS2 : (PS w.heap.size (w.heap.size + 1) p A m c) w1.drew := hS1.below hdr
          have hb2 := bnext hb1 hdr
          clear hdr hS1 hb1
          generalize w1.drew = w2 at *
          refine wpAnyL_take (i := 0) (f0 := 26) (v := ?_) rfl (by decide +kernel) (by decide +kernel) (by decide +kernel) (by decide +kernel) (by decide +kernel) (fun _ _ _ h => h) (Or.inl ⟨by rfl, ?_⟩) hS2 ?_
          rotate_left
          · intro wS hS; go_simp; (try with_reducible rfl)
          simp only [Act.put, List.getElem_toArray, List.getElem_cons_zero, List.setIfInBounds_toArray, List.set_cons_succ, List.set_cons_zero]
          refine wpAnyL_take (i := 1) (f0 := 26) (v := ?_) rfl (by decide +kernel) (by decide +kernel) (by decide +kernel) (by decide +kernel) (by decide +kernel) (fun _ _ _ h => h) (Or.inl ⟨by rfl, ?_⟩) hS2 ?_
          rotate_left
          · intro wS hS; go_simp; (try with_reducible rfl)
          simp only [Act.put, List.getElem_toArray, List.getElem_cons_succ, List.getElem_cons_zero, List.setIfInBounds_toArray, List.set_cons_succ, List.set_cons_zero]
          refine wpAnyL_take (i := 2) (f0 := 26) (v := ?_) rfl (by decide +kernel) (by decide +kernel) (by decide +kernel) (by decide +kernel) (by decide +kernel) (fun _ _ _ h => h) (Or.inl ⟨by rfl, ?_⟩) hS2 ?_
          rotate_left
          · intro wS hS; go_simp; (try with_reducible rfl)
          simp only [Act.put, List.getElem_toArray, List.getElem_cons_succ, List.getElem_cons_zero, List.setIfInBounds_toArray, List.set_cons_succ, List.set_cons_zero]
          refine wpAnyL_take (i := 3) (f0 := 26) (v := ?_) rfl (by decide +kernel) (by decide +kernel) (by decide +kernel) (by decide +kernel) (by decide +kernel) (fun _ _ _ h => h) (Or.inl ⟨by rfl, ?_⟩) hS2 ?_
          rotate_left
          · intro wS hS; obtain ⟨q0, q1, q2, q3, q4, q5, q6⟩ := iCells hS.r2; go_simp; (try with_reducible rfl)
          simp only [Act.put, List.getElem_toArray, List.getElem_cons_succ, List.getElem_cons_zero, List.setIfInBounds_toArray, List.set_cons_succ, List.set_cons_zero]
          refine wpAnyL_take (i := 4) (f0 := 26) (v := ?_) rfl (by decide +kernel) (by decide +kernel) (by decide +kernel) (by decide +kernel) (by decide +kernel) (fun _ _ _ h => h) (Or.inl ⟨by rfl, ?_⟩) hS2 ?_
          rotate_left
          · intro wS hS; go_simp; (try with_reducible rfl)
          simp only [Act.put, List.getElem_toArray, List.getElem_cons_succ, List.getElem_cons_zero, List.setIfInBounds_toArray, List.set_cons_succ, List.set_cons_zero]
          refine wpAnyL_take (i := 5) (f0 := 26) (v := ?_) rfl (by decide +kernel) (by decide +kernel) (by decide +kernel) (by decide +kernel) (by decide +kernel) (fun _ _ _ h => h) (Or.inl ⟨by rfl, ?_⟩) hS2 ?_
          rotate_left
          · intro wS hS; go_simp; (try with_reducible rfl)
          simp only [Act.put, List.getElem_toArray, List.getElem_cons_succ, List.getElem_cons_zero, List.setIfInBounds_toArray, List.set_cons_succ, List.set_cons_zero]
          refine wpAnyL_take (i := 6) (f0 := 26) (v := ?_) rfl (by decide +kernel) (by decide +kernel) (by decide +kernel) (by decide +kernel) (by decide +kernel) (fun _ _ _ h => h) (Or.inl ⟨by rfl, ?_⟩) hS2 ?_
          rotate_left
          · intro wS hS; go_simp; (try with_reducible rfl)
          simp only [Act.put, List.getElem_toArray, List.getElem_cons_succ, List.getElem_cons_zero, List.setIfInBounds_toArray, List.set_cons_succ, List.set_cons_zero]
          refine wpAnyL_take (i := 7) (f0 := 26) (v := ?_) rfl (by decide +kernel) (by decide +kernel) (by decide +kernel) (by decide +kernel) (by decide +kernel) (fun _ _ _ h => h) (Or.inl ⟨by rfl, ?_⟩) hS2 ?_
          rotate_left
          · intro wS hS; go_simp; (try with_reducible rfl)
          simp only [Act.put, List.getElem_toArray, List.getElem_cons_succ, List.getElem_cons_zero, List.setIfInBounds_toArray, List.set_cons_succ, List.set_cons_zero]
          refine wpAnyL_take (i := 8) (f0 := 26) (v := ?_) rfl (by decide +kernel) (by decide +kernel) (by decide +kernel) (by decide +kernel) (by decide +kernel) (fun _ _ _ h => h) (Or.inl ⟨by rfl, ?_⟩) hS2 ?_
          rotate_left
          · intro wS hS; obtain ⟨q0, q1, q2, q3, q4, q5, q6⟩ := iCells hS.r2; go_simp; (try with_reducible rfl)
          simp only [Act.put, List.getElem_toArray, List.getElem_cons_succ, List.getElem_cons_zero, List.setIfInBounds_toArray, List.set_cons_succ, List.set_cons_zero]
          refine wpAnyL_take (i := 9) (f0 := 26) (v := ?_) rfl (by decide +kernel) (by decide +kernel) (by decide +kernel) (by decide +kernel) (by decide +kernel) (fun _ _ _ h => h) (Or.inl ⟨by rfl, ?_⟩) hS2 ?_
          rotate_left
          · intro wS hS; go_simp; (try with_reducible rfl)
          simp only [Act.put, List.getElem_toArray, List.getElem_cons_succ, List.getElem_cons_zero, List.setIfInBounds_toArray, List.set_cons_succ, List.set_cons_zero]
          refine wpAnyL_take (i := 10) (f0 := 26) (v := ?_) rfl (by decide +kernel) (by decide +kernel) (by decide +kernel) (by decide +kernel) (by decide +kernel) (fun _ _ _ h => h) (Or.inl ⟨by rfl, ?_⟩) hS2 ?_
          rotate_left
          · intro wS hS; go_simp; (try with_reducible rfl)
          simp only [Act.put, List.getElem_toArray, List.getElem_cons_succ, List.getElem_cons_zero, List.setIfInBounds_toArray, List.set_cons_succ, List.set_cons_zero]
          refine wpAnyL_take (i := 11) (f0 := 26) (v := ?_) rfl (by decide +kernel) (by decide +kernel) (by decide +kernel) (by decide +kernel) (by decide +kernel) (fun _ _ _ h => h) (Or.inl ⟨by rfl, ?_⟩) hS2 ?_
          rotate_left
          · intro wS hS; go_simp; (try with_reducible rfl)
          simp only [Act.put, List.getElem_toArray, List.getElem_cons_succ, List.getElem_cons_zero, List.setIfInBounds_toArray, List.set_cons_succ, List.set_cons_zero]
          refine wpAnyL_take (i := 12) (f0 := 26) (v := undef) rfl (by decide +kernel) (by decide +kernel) (by decide +kernel) (by decide +kernel) (by decide +kernel) (fun _ _ _ h => h) (Or.inr ⟨by rfl, rfl⟩) hS2 ?_
          simp only [Act.put, List.getElem_toArray, List.getElem_cons_succ, List.getElem_cons_zero, List.setIfInBounds_toArray, List.set_cons_succ, List.set_cons_zero]
          refine wpAnyL_take (i := 13) (f0 := 26) (v := undef) rfl (by decide +kernel) (by decide +kernel) (by decide +kernel) (by decide +kernel) (by decide +kernel) (fun _ _ _ h => h) (Or.inr ⟨by rfl, rfl⟩) hS2 ?_
          simp only [Act.put, List.getElem_toArray, List.getElem_cons_succ, List.getElem_cons_zero, List.setIfInBounds_toArray, List.set_cons_succ, List.set_cons_zero]
          refine wpAnyL_take (i := 14) (f0 := 26) (v := undef) rfl (by decide +kernel) (by decide +kernel) (by decide +kernel) (by decide +kernel) (by decide +kernel) (fun _ _ _ h => h) (Or.inr ⟨by rfl, rfl⟩) hS2 ?_
          simp only [Act.put, List.getElem_toArray, List.getElem_cons_succ, List.getElem_cons_zero, List.setIfInBounds_toArray, List.set_cons_succ, List.set_cons_zero]
          refine wpAnyL_take (i := 15) (f0 := 26) (v := undef) rfl (by decide +kernel) (by decide +kernel) (by decide +kernel) (by decide +kernel) (by decide +kernel) (fun _ _ _ h => h) (Or.inr ⟨by rfl, rfl⟩) hS2 ?_
          simp only [Act.put, List.getElem_toArray, List.getElem_cons_succ, List.getElem_cons_zero, List.setIfInBounds_toArray, List.set_cons_succ, List.set_cons_zero]
          refine wpAnyL_take (i := 16) (f0 := 26) (v := undef) rfl (by decide +kernel) (by decide +kernel) (by decide +kernel) (by decide +kernel) (by decide +kernel) (fun _ _ _ h => h) (Or.inr ⟨by rfl, rfl⟩) hS2 ?_
          simp only [Act.put, List.getElem_toArray, List.getElem_cons_succ, List.getElem_cons_zero, List.setIfInBounds_toArray, List.set_cons_succ, List.set_cons_zero]
          refine wpAnyL_take (i := 17) (f0 := 26) (v := undef) rfl (by decide +kernel) (by decide +kernel) (by decide +kernel) (by decide +kernel) (by decide +kernel) (fun _ _ _ h => h) (Or.inr ⟨by rfl, rfl⟩) hS2 ?_
          simp only [Act.put, List.getElem_toArray, List.getElem_cons_succ, List.getElem_cons_zero, List.setIfInBounds_toArray, List.set_cons_succ, List.set_cons_zero]
          refine wpAnyL_take (i := 18) (f0 := 26) (v := undef) rfl (by decide +kernel) (by decide +kernel) (by decide +kernel) (by decide +kernel) (by decide +kernel) (fun _ _ _ h => h) (Or.inr ⟨by rfl, rfl⟩) hS2 ?_
          simp only [Act.put, List.getElem_toArray, List.getElem_cons_succ, List.getElem_cons_zero, List.setIfInBounds_toArray, List.set_cons_succ, List.set_cons_zero]
          refine wpAnyL_take (i := 19) (f0 := 26) (v := undef) rfl (by decide +kernel) (by decide +kernel) (by decide +kernel) (by decide +kernel) (by decide +kernel) (fun _ _ _ h => h) (Or.inr ⟨by rfl, rfl⟩) hS2 ?_
          simp only [Act.put, List.getElem_toArray, List.getElem_cons_succ, List.getElem_cons_zero, List.setIfInBounds_toArray, List.set_cons_succ, List.set_cons_zero]
          refine wpAnyL_take (i := 20) (f0 := 26) (v := undef) rfl (by decide +kernel) (by decide +kernel) (by decide +kernel) (by decide +kernel) (by decide +kernel) (fun _ _ _ h => h) (Or.inr ⟨by rfl, rfl⟩) hS2 ?_
          simp only [Act.put, List.getElem_toArray, List.getElem_cons_succ, List.getElem_cons_zero, List.setIfInBounds_toArray, List.set_cons_succ, List.set_cons_zero]
          refine wpAnyL_take (i := 21) (f0 := 26) (v := undef) rfl (by decide +kernel) (by decide +kernel) (by decide +kernel) (by decide +kernel) (by decide +kernel) (fun _ _ _ h => h) (Or.inr ⟨by rfl, rfl⟩) hS2 ?_
          simp only [Act.put, List.getElem_toArray, List.getElem_cons_succ, List.getElem_cons_zero, List.setIfInBounds_toArray, List.set_cons_succ, List.set_cons_zero]
          refine wpAnyL_take (i := 22) (f0 := 26) (v := ?_) rfl (by decide +kernel) (by decide +kernel) (by decide +kernel) (by decide +kernel) (by decide +kernel) (fun _ _ _ h => h) (Or.inl ⟨by rfl, ?_⟩) hS2 ?_
          rotate_left
          · intro wS hS; go_simp; (try with_reducible rfl)
          simp only [Act.put, List.getElem_toArray, List.getElem_cons_succ, List.getElem_cons_zero, List.setIfInBounds_toArray, List.set_cons_succ, List.set_cons_zero]
          refine wpAnyL_take (i := 23) (f0 := 26) (v := ?_) rfl (by decide +kernel) (by decide +kernel) (by decide +kernel) (by decide +kernel) (by decide +kernel) (fun _ _ _ h => h) (Or.inl ⟨by rfl, ?_⟩) hS2 ?_
          rotate_left
          · intro wS hS; go_simp; (try with_reducible rfl)
          simp only [Act.put, List.getElem_toArray, List.getElem_cons_succ, List.getElem_cons_zero, List.setIfInBounds_toArray, List.set_cons_succ, List.set_cons_zero]
          refine wpAnyL_done (by decide +kernel) ?_ _
          refine NoPanic.normal ?_
          go_wp2
          go_ret
          exact ⟨ret_bool E9.out, hb2⟩
        | false =>
          obtain ⟨q0, q1, q2, q3, q4, q5, q6⟩ := iCells hS1.r2
          go_upto_region 3 with (fail)
          clear q0 q1 q2 q3 q4 q5 q6
          try clear hc1
          try clear hc2
          refine wp_region_noPanic ?_
          refine wp_region_L (PS w.heap.size (w.heap.size + 1) p A m c) 24 hmx ?_
          have hdr := (Below.refl w1.heap.size w1).drew
          have hS2 : (PS w.heap.size (w.heap.size + 1) p A m c) w1.drew := hS1.below hdr
          have hb2 := bnext hb1 hdr
          clear hdr hS1 hb1
          generalize w1.drew = w2 at *
          obtain ⟨LF, hLF⟩ : ∃ K, Dg.leafI p.it = K := ⟨_, rfl⟩
          have HKZ := hide (show LF.size ≤ 1048576 by rw [← hLF]; exact leafI_size2 HZ.out)
          have HC := hide (show checkB root p.count p.idx LF p.path = R by rw [← HR.out, checkP_rest HKO.out HNO.out hg, hLF])
          have HLF := hide hLF
          clear hLF
          refine wpAnyL_take (i := 0) (f0 := 26) (v := ?_) rfl (by decide +kernel) (by decide +kernel) (by decide +kernel) (by decide +kernel) (by decide +kernel) (fun _ _ _ h => h) (Or.inl ⟨by rfl, ?_⟩) hS2 ?_
          rotate_left
          · intro wS hS; go_simp; (try with_reducible rfl)
          simp only [Act.put, List.getElem_toArray, List.getElem_cons_zero, List.setIfInBounds_toArray, List.set_cons_succ, List.set_cons_zero]
          refine wpAnyL_take (i := 1) (f0 := 26) (v := ?_) rfl (by decide +kernel) (by decide +kernel) (by decide +kernel) (by decide +kernel) (by decide +kernel) (fun _ _ _ h => h) (Or.inl ⟨by rfl, ?_⟩) hS2 ?_
          rotate_left
          · intro wS hS; go_simp; (try with_reducible rfl)
          simp only [Act.put, List.getElem_toArray, List.getElem_cons_succ, List.getElem_cons_zero, List.setIfInBounds_toArray, List.set_cons_succ, List.set_cons_zero]
          refine wpAnyL_take (i := 2) (f0 := 26) (v := ?_) rfl (by decide +kernel) (by decide +kernel) (by decide +kernel) (by decide +kernel) (by decide +kernel) (fun _ _ _ h => h) (Or.inl ⟨by rfl, ?_⟩) hS2 ?_
          rotate_left
          · intro wS hS; go_simp; (try with_reducible rfl)
          simp only [Act.put, List.getElem_toArray, List.getElem_cons_succ, List.getElem_cons_zero, List.setIfInBounds_toArray, List.set_cons_succ, List.set_cons_zero]
          refine wpAnyL_take (i := 3) (f0 := 26) (v := ?_) rfl (by decide +kernel) (by decide +kernel) (by decide +kernel) (by decide +kernel) (by decide +kernel) (fun _ _ _ h => h) (Or.inl ⟨by rfl, ?_⟩) hS2 ?_
          rotate_left
          · intro wS hS; obtain ⟨q0, q1, q2, q3, q4, q5, q6⟩ := iCells hS.r2; go_simp; (try with_reducible rfl)
          simp only [Act.put, List.getElem_toArray, List.getElem_cons_succ, List.getElem_cons_zero, List.setIfInBounds_toArray, List.set_cons_succ, List.set_cons_zero]
          refine wpAnyL_take (i := 4) (f0 := 26) (v := ?_) rfl (by decide +kernel) (by decide +kernel) (by decide +kernel) (by decide +kernel) (by decide +kernel) (fun _ _ _ h => h) (Or.inl ⟨by rfl, ?_⟩) hS2 ?_
          rotate_left
          · intro wS hS; go_simp; (try with_reducible rfl)
          simp only [Act.put, List.getElem_toArray, List.getElem_cons_succ, List.getElem_cons_zero, List.setIfInBounds_toArray, List.set_cons_succ, List.set_cons_zero]
          refine wpAnyL_take (i := 5) (f0 := 26) (v := ?_) rfl (by decide +kernel) (by decide +kernel) (by decide +kernel) (by decide +kernel) (by decide +kernel) (fun _ _ _ h => h) (Or.inl ⟨by rfl, ?_⟩) hS2 ?_
          rotate_left
          · intro wS hS; go_simp; (try with_reducible rfl)
          simp only [Act.put, List.getElem_toArray, List.getElem_cons_succ, List.getElem_cons_zero, List.setIfInBounds_toArray, List.set_cons_succ, List.set_cons_zero]
          refine wpAnyL_take (i := 6) (f0 := 26) (v := ?_) rfl (by decide +kernel) (by decide +kernel) (by decide +kernel) (by decide +kernel) (by decide +kernel) (fun _ _ _ h => h) (Or.inl ⟨by rfl, ?_⟩) hS2 ?_
          rotate_left
          · intro wS hS; go_simp; (try with_reducible rfl)
          simp only [Act.put, List.getElem_toArray, List.getElem_cons_succ, List.getElem_cons_zero, List.setIfInBounds_toArray, List.set_cons_succ, List.set_cons_zero]
          refine wpAnyL_take (i := 7) (f0 := 26) (v := ?_) rfl (by decide +kernel) (by decide +kernel) (by decide +kernel) (by decide +kernel) (by decide +kernel) (fun _ _ _ h => h) (Or.inl ⟨by rfl, ?_⟩) hS2 ?_
          rotate_left
          · intro wS hS; go_simp; (try with_reducible rfl)
          simp only [Act.put, List.getElem_toArray, List.getElem_cons_succ, List.getElem_cons_zero, List.setIfInBounds_toArray, List.set_cons_succ, List.set_cons_zero]
          refine wpAnyL_take (i := 8) (f0 := 26) (v := ?_) rfl (by decide +kernel) (by decide +kernel) (by decide +kernel) (by decide +kernel) (by decide +kernel) (fun _ _ _ h => h) (Or.inl ⟨by rfl, ?_⟩) hS2 ?_
          rotate_left
          · intro wS hS; obtain ⟨q0, q1, q2, q3, q4, q5, q6⟩ := iCells hS.r2; go_simp; (try with_reducible rfl)
          simp only [Act.put, List.getElem_toArray, List.getElem_cons_succ, List.getElem_cons_zero, List.setIfInBounds_toArray, List.set_cons_succ, List.set_cons_zero]
          refine wpAnyL_take (i := 9) (f0 := 26) (v := ?_) rfl (by decide +kernel) (by decide +kernel) (by decide +kernel) (by decide +kernel) (by decide +kernel) (fun _ _ _ h => h) (Or.inl ⟨by rfl, ?_⟩) hS2 ?_
          rotate_left
          · intro wS hS; go_simp; (try with_reducible rfl)
          simp only [Act.put, List.getElem_toArray, List.getElem_cons_succ, List.getElem_cons_zero, List.setIfInBounds_toArray, List.set_cons_succ, List.set_cons_zero]
          refine wpAnyL_take (i := 10) (f0 := 26) (v := ?_) rfl (by decide +kernel) (by decide +kernel) (by decide +kernel) (by decide +kernel) (by decide +kernel) (fun _ _ _ h => h) (Or.inl ⟨by rfl, ?_⟩) hS2 ?_
          rotate_left
          · intro wS hS; go_simp; (try with_reducible rfl)
          simp only [Act.put, List.getElem_toArray, List.getElem_cons_succ, List.getElem_cons_zero, List.setIfInBounds_toArray, List.set_cons_succ, List.set_cons_zero]
          refine wpAnyL_take (i := 11) (f0 := 26) (v := ?_) rfl (by decide +kernel) (by decide +kernel) (by decide +kernel) (by decide +kernel) (by decide +kernel) (fun _ _ _ h => h) (Or.inl ⟨by rfl, ?_⟩) hS2 ?_
          rotate_left
          · intro wS hS; go_simp; (try with_reducible rfl)
          simp only [Act.put, List.getElem_toArray, List.getElem_cons_succ, List.getElem_cons_zero, List.setIfInBounds_toArray, List.set_cons_succ, List.set_cons_zero]
          refine wpAnyL_take (i := 12) (f0 := 26) (v := ?_) rfl (by decide +kernel) (by decide +kernel) (by decide +kernel) (by decide +kernel) (by decide +kernel) (fun _ _ _ h => h) (Or.inl ⟨by rfl, ?_⟩) hS2 ?_
          rotate_left
          · intro wS hS; go_simp; (try with_reducible rfl)
          simp only [Act.put, List.getElem_toArray, List.getElem_cons_succ, List.getElem_cons_zero, List.setIfInBounds_toArray, List.set_cons_succ, List.set_cons_zero]
          refine wpAnyL_take (i := 13) (f0 := 26) (v := ?_) rfl (by decide +kernel) (by decide +kernel) (by decide +kernel) (by decide +kernel) (by decide +kernel) (fun _ _ _ h => h) (Or.inl ⟨by rfl, ?_⟩) hS2 ?_
          rotate_left
          · intro wS hS; go_simp; (try with_reducible rfl)
          simp only [Act.put, List.getElem_toArray, List.getElem_cons_succ, List.getElem_cons_zero, List.setIfInBounds_toArray, List.set_cons_succ, List.set_cons_zero]
          refine wpAnyL_take (i := 14) (f0 := 26) (v := ?_) rfl (by decide +kernel) (by decide +kernel) (by decide +kernel) (by decide +kernel) (by decide +kernel) (fun _ _ _ h => h) (Or.inl ⟨by rfl, ?_⟩) hS2 ?_
          rotate_left
          · intro wS hS; obtain ⟨q0, q1, q2, q3, q4, q5, q6, q7, q8, q9⟩ := jCells10 hS.r1; go_simp; (try with_reducible rfl)
          simp only [Act.put, List.getElem_toArray, List.getElem_cons_succ, List.getElem_cons_zero, List.setIfInBounds_toArray, List.set_cons_succ, List.set_cons_zero]
          refine wpAnyL_take (i := 15) (f0 := 26) (v := ?_) rfl (by decide +kernel) (by decide +kernel) (by decide +kernel) (by decide +kernel) (by decide +kernel) (fun _ _ _ h => h) (Or.inl ⟨by rfl, ?_⟩) hS2 ?_
          rotate_left
          · intro wS hS; go_simp; (try with_reducible rfl)
          simp only [Act.put, List.getElem_toArray, List.getElem_cons_succ, List.getElem_cons_zero, List.setIfInBounds_toArray, List.set_cons_succ, List.set_cons_zero]
          refine wpAnyL_take (i := 16) (f0 := 26) (v := ?_) rfl (by decide +kernel) (by decide +kernel) (by decide +kernel) (by decide +kernel) (by decide +kernel) (fun _ _ _ h => h) (Or.inl ⟨by rfl, ?_⟩) hS2 ?_
          rotate_left
          · intro wS hS; obtain ⟨q0, q1, q2, q3, q4, q5, q6, q7, q8, q9⟩ := jCells10 hS.r1; go_simp; (try with_reducible rfl)
          simp only [Act.put, List.getElem_toArray, List.getElem_cons_succ, List.getElem_cons_zero, List.setIfInBounds_toArray, List.set_cons_succ, List.set_cons_zero]
          refine wpAnyL_take (i := 17) (f0 := 26) (v := ?_) rfl (by decide +kernel) (by decide +kernel) (by decide +kernel) (by decide +kernel) (by decide +kernel) (fun _ _ _ h => h) (Or.inl ⟨by rfl, ?_⟩) hS2 ?_
          rotate_left
          · intro wS hS; obtain ⟨q0, q1, q2, q3, q4, q5, q6⟩ := iCells hS.r2; go_simp; (try with_reducible rfl)
          simp only [Act.put, List.getElem_toArray, List.getElem_cons_succ, List.getElem_cons_zero, List.setIfInBounds_toArray, List.set_cons_succ, List.set_cons_zero]
          refine wpAnyL_take (i := 19) (f0 := 26) (v := ?_) rfl (by decide +kernel) (by decide +kernel) (by decide +kernel) (by decide +kernel) (by decide +kernel) (fun _ _ _ h => h) (Or.inl ⟨by rfl, ?_⟩) hS2 ?_
          rotate_left
          · intro wS hS; go_simp; (try with_reducible rfl)
          simp only [Act.put, List.getElem_toArray, List.getElem_cons_succ, List.getElem_cons_zero, List.setIfInBounds_toArray, List.set_cons_succ, List.set_cons_zero]
          refine wpAnyL_take (i := 20) (f0 := 26) (v := ?_) rfl (by decide +kernel) (by decide +kernel) (by decide +kernel) (by decide +kernel) (by decide +kernel) (fun _ _ _ h => h) (Or.inl ⟨by rfl, ?_⟩) hS2 ?_
          rotate_left
          · intro wS hS; obtain ⟨q0, q1, q2, q3, q4, q5, q6, q7, q8, q9⟩ := jCells10 hS.r1; go_simp; (try with_reducible rfl)
          simp only [Act.put, List.getElem_toArray, List.getElem_cons_succ, List.getElem_cons_zero, List.setIfInBounds_toArray, List.set_cons_succ, List.set_cons_zero]
          refine wpAnyL_one (i := 18) (by decide +kernel) (by rfl) (fun K hK => ?_)
          rw [if_pos (by rfl)]
          go_simp
          refine (pleaf_g p.it false (fun s hs => Nat.le_trans (HZ.out s hs) (by decide)) w2 (HE.out.next hb2) LF HLF.out).mono ?_
          rintro e w3 ⟨rfl, hx3⟩
          have hS3 : (PS w.heap.size (w.heap.size + 1) p A m c) w3 := hS2.below hx3
          have hb3 := bnext hb2 hx3
          refine hK.out _ _ (Or.inr hS3) ?_
          clear hK K hS2 hb2 hx3
          try simp only [Act.put, List.getElem_toArray, List.getElem_cons_succ, List.getElem_cons_zero, List.setIfInBounds_toArray, List.set_cons_succ, List.set_cons_zero]
          refine wpAnyL_one (i := 21) (by decide +kernel) (by rfl) (fun K hK => ?_)
          rw [if_pos (by rfl)]
          go_simp
          refine (check_of root p.count p.idx LF A c m p.path R HC.out w3 (HE.out.next hb3) HM.out hm2 (fun s hs => Nat.le_trans (HPS.out s hs) (by decide)) (by have := HKZ.out; omega) hS3.path).mono ?_
          rintro e w4 ⟨rfl, hx4⟩
          have hS4 : (PS w.heap.size (w.heap.size + 1) p A m c) w4 := hS3.below hx4
          have hb4 := bnext hb3 hx4
          refine hK.out _ _ (Or.inr hS4) ?_
          clear hK K hS3 hb3 hx4
          try simp only [Act.put, List.getElem_toArray, List.getElem_cons_succ, List.getElem_cons_zero, List.setIfInBounds_toArray, List.set_cons_succ, List.set_cons_zero]
          refine wpAnyL_take (i := 22) (f0 := 26) (v := ?_) rfl (by decide +kernel) (by decide +kernel) (by decide +kernel) (by decide +kernel) (by decide +kernel) (fun _ _ _ h => h) (Or.inl ⟨by rfl, ?_⟩) hS4 ?_
          rotate_left
          · intro wS hS; go_simp; (try with_reducible rfl)
          simp only [Act.put, List.getElem_toArray, List.getElem_cons_succ, List.getElem_cons_zero, List.setIfInBounds_toArray, List.set_cons_succ, List.set_cons_zero]
          refine wpAnyL_take (i := 23) (f0 := 26) (v := ?_) rfl (by decide +kernel) (by decide +kernel) (by decide +kernel) (by decide +kernel) (by decide +kernel) (fun _ _ _ h => h) (Or.inl ⟨by rfl, ?_⟩) hS4 ?_
          rotate_left
          · intro wS hS; go_simp; (try with_reducible rfl)
          simp only [Act.put, List.getElem_toArray, List.getElem_cons_succ, List.getElem_cons_zero, List.setIfInBounds_toArray, List.set_cons_succ, List.set_cons_zero]
          refine wpAnyL_done (by decide +kernel) ?_ _
          refine NoPanic.normal ?_
          go_wp2
          go_ret
          exact ⟨rfl, hb4⟩
    · have kb1 : (p.it.kind == 1) = false := beq_eq_false_iff_ne.2 k1
      clear k1
      have E9 := hide (show false = R by rw [← HR.out]; exact (checkP_kind (by unfold kindOk; rw [kb2, kb1]; rfl)).symm)
      obtain ⟨q0, q1, q2, q3, q4, q5, q6⟩ := iCells hS1.r2
      go_upto_region 3 with (fail)
      clear q0 q1 q2 q3 q4 q5 q6
      try clear hc1
      try clear hc2
      refine wp_region_noPanic ?_
      refine wp_region_L (PS w.heap.size (w.heap.size + 1) p A m c) 24 hmx ?_
      have hdr := (Below.refl w1.heap.size w1).drew
      have hS2 : (PS w.heap.size (w.heap.size + 1) p A m c) w1.drew := hS1.below hdr
      have hb2 := bnext hb1 hdr
      clear hdr hS1 hb1
      generalize w1.drew = w2 at *
      refine wpAnyL_take (i := 0) (f0 := 26) (v := ?_) rfl (by decide +kernel) (by decide +kernel) (by decide +kernel) (by decide +kernel) (by decide +kernel) (fun _ _ _ h => h) (Or.inl ⟨by rfl, ?_⟩) hS2 ?_
      rotate_left
      · intro wS hS; go_simp; (try with_reducible rfl)
      simp only [Act.put, List.getElem_toArray, List.getElem_cons_zero, List.setIfInBounds_toArray, List.set_cons_succ, List.set_cons_zero]
      refine wpAnyL_take (i := 1) (f0 := 26) (v := ?_) rfl (by decide +kernel) (by decide +kernel) (by decide +kernel) (by decide +kernel) (by decide +kernel) (fun _ _ _ h => h) (Or.inl ⟨by rfl, ?_⟩) hS2 ?_
      rotate_left
      · intro wS hS; go_simp; (try with_reducible rfl)
      simp only [Act.put, List.getElem_toArray, List.getElem_cons_succ, List.getElem_cons_zero, List.setIfInBounds_toArray, List.set_cons_succ, List.set_cons_zero]
      refine wpAnyL_take (i := 2) (f0 := 26) (v := undef) rfl (by decide +kernel) (by decide +kernel) (by decide +kernel) (by decide +kernel) (by decide +kernel) (fun _ _ _ h => h) (Or.inr ⟨by rfl, rfl⟩) hS2 ?_
      simp only [Act.put, List.getElem_toArray, List.getElem_cons_succ, List.getElem_cons_zero, List.setIfInBounds_toArray, List.set_cons_succ, List.set_cons_zero]
      refine wpAnyL_take (i := 3) (f0 := 26) (v := undef) rfl (by decide +kernel) (by decide +kernel) (by decide +kernel) (by decide +kernel) (by decide +kernel) (fun _ _ _ h => h) (Or.inr ⟨by rfl, rfl⟩) hS2 ?_
      simp only [Act.put, List.getElem_toArray, List.getElem_cons_succ, List.getElem_cons_zero, List.setIfInBounds_toArray, List.set_cons_succ, List.set_cons_zero]
      refine wpAnyL_take (i := 4) (f0 := 26) (v := undef) rfl (by decide +kernel) (by decide +kernel) (by decide +kernel) (by decide +kernel) (by decide +kernel) (fun _ _ _ h => h) (Or.inr ⟨by rfl, rfl⟩) hS2 ?_
      simp only [Act.put, List.getElem_toArray, List.getElem_cons_succ, List.getElem_cons_zero, List.setIfInBounds_toArray, List.set_cons_succ, List.set_cons_zero]
      refine wpAnyL_take (i := 5) (f0 := 26) (v := ?_) rfl (by decide +kernel) (by decide +kernel) (by decide +kernel) (by decide +kernel) (by decide +kernel) (fun _ _ _ h => h) (Or.inl ⟨by rfl, ?_⟩) hS2 ?_
      rotate_left
      · intro wS hS; go_simp; (try with_reducible rfl)
      simp only [Act.put, List.getElem_toArray, List.getElem_cons_succ, List.getElem_cons_zero, List.setIfInBounds_toArray, List.set_cons_succ, List.set_cons_zero]
      refine wpAnyL_take (i := 6) (f0 := 26) (v := ?_) rfl (by decide +kernel) (by decide +kernel) (by decide +kernel) (by decide +kernel) (by decide +kernel) (fun _ _ _ h => h) (Or.inl ⟨by rfl, ?_⟩) hS2 ?_
      rotate_left
      · intro wS hS; go_simp; (try with_reducible rfl)
      simp only [Act.put, List.getElem_toArray, List.getElem_cons_succ, List.getElem_cons_zero, List.setIfInBounds_toArray, List.set_cons_succ, List.set_cons_zero]
      refine wpAnyL_take (i := 7) (f0 := 26) (v := undef) rfl (by decide +kernel) (by decide +kernel) (by decide +kernel) (by decide +kernel) (by decide +kernel) (fun _ _ _ h => h) (Or.inr ⟨by rfl, rfl⟩) hS2 ?_
      simp only [Act.put, List.getElem_toArray, List.getElem_cons_succ, List.getElem_cons_zero, List.setIfInBounds_toArray, List.set_cons_succ, List.set_cons_zero]
      refine wpAnyL_take (i := 8) (f0 := 26) (v := undef) rfl (by decide +kernel) (by decide +kernel) (by decide +kernel) (by decide +kernel) (by decide +kernel) (fun _ _ _ h => h) (Or.inr ⟨by rfl, rfl⟩) hS2 ?_
      simp only [Act.put, List.getElem_toArray, List.getElem_cons_succ, List.getElem_cons_zero, List.setIfInBounds_toArray, List.set_cons_succ, List.set_cons_zero]
      refine wpAnyL_take (i := 9) (f0 := 26) (v := undef) rfl (by decide +kernel) (by decide +kernel) (by decide +kernel) (by decide +kernel) (by decide +kernel) (fun _ _ _ h => h) (Or.inr ⟨by rfl, rfl⟩) hS2 ?_
      simp only [Act.put, List.getElem_toArray, List.getElem_cons_succ, List.getElem_cons_zero, List.setIfInBounds_toArray, List.set_cons_succ, List.set_cons_zero]
      refine wpAnyL_take (i := 10) (f0 := 26) (v := ?_) rfl (by decide +kernel) (by decide +kernel) (by decide +kernel) (by decide +kernel) (by decide +kernel) (fun _ _ _ h => h) (Or.inl ⟨by rfl, ?_⟩) hS2 ?_
      rotate_left
      · intro wS hS; go_simp; (try with_reducible rfl)
      simp only [Act.put, List.getElem_toArray, List.getElem_cons_succ, List.getElem_cons_zero, List.setIfInBounds_toArray, List.set_cons_succ, List.set_cons_zero]
      refine wpAnyL_take (i := 11) (f0 := 26) (v := ?_) rfl (by decide +kernel) (by decide +kernel) (by decide +kernel) (by decide +kernel) (by decide +kernel) (fun _ _ _ h => h) (Or.inl ⟨by rfl, ?_⟩) hS2 ?_
      rotate_left
      · intro wS hS; go_simp; (try with_reducible rfl)
      simp only [Act.put, List.getElem_toArray, List.getElem_cons_succ, List.getElem_cons_zero, List.setIfInBounds_toArray, List.set_cons_succ, List.set_cons_zero]
      refine wpAnyL_take (i := 12) (f0 := 26) (v := undef) rfl (by decide +kernel) (by decide +kernel) (by decide +kernel) (by decide +kernel) (by decide +kernel) (fun _ _ _ h => h) (Or.inr ⟨by rfl, rfl⟩) hS2 ?_
      simp only [Act.put, List.getElem_toArray, List.getElem_cons_succ, List.getElem_cons_zero, List.setIfInBounds_toArray, List.set_cons_succ, List.set_cons_zero]
      refine wpAnyL_take (i := 13) (f0 := 26) (v := undef) rfl (by decide +kernel) (by decide +kernel) (by decide +kernel) (by decide +kernel) (by decide +kernel) (fun _ _ _ h => h) (Or.inr ⟨by rfl, rfl⟩) hS2 ?_
      simp only [Act.put, List.getElem_toArray, List.getElem_cons_succ, List.getElem_cons_zero, List.setIfInBounds_toArray, List.set_cons_succ, List.set_cons_zero]
      refine wpAnyL_take (i := 14) (f0 := 26) (v := undef) rfl (by decide +kernel) (by decide +kernel) (by decide +kernel) (by decide +kernel) (by decide +kernel) (fun _ _ _ h => h) (Or.inr ⟨by rfl, rfl⟩) hS2 ?_
      simp only [Act.put, List.getElem_toArray, List.getElem_cons_succ, List.getElem_cons_zero, List.setIfInBounds_toArray, List.set_cons_succ, List.set_cons_zero]
      refine wpAnyL_take (i := 15) (f0 := 26) (v := undef) rfl (by decide +kernel) (by decide +kernel) (by decide +kernel) (by decide +kernel) (by decide +kernel) (fun _ _ _ h => h) (Or.inr ⟨by rfl, rfl⟩) hS2 ?_
      simp only [Act.put, List.getElem_toArray, List.getElem_cons_succ, List.getElem_cons_zero, List.setIfInBounds_toArray, List.set_cons_succ, List.set_cons_zero]
      refine wpAnyL_take (i := 16) (f0 := 26) (v := undef) rfl (by decide +kernel) (by decide +kernel) (by decide +kernel) (by decide +kernel) (by decide +kernel) (fun _ _ _ h => h) (Or.inr ⟨by rfl, rfl⟩) hS2 ?_
      simp only [Act.put, List.getElem_toArray, List.getElem_cons_succ, List.getElem_cons_zero, List.setIfInBounds_toArray, List.set_cons_succ, List.set_cons_zero]
      refine wpAnyL_take (i := 17) (f0 := 26) (v := undef) rfl (by decide +kernel) (by decide +kernel) (by decide +kernel) (by decide +kernel) (by decide +kernel) (fun _ _ _ h => h) (Or.inr ⟨by rfl, rfl⟩) hS2 ?_
      simp only [Act.put, List.getElem_toArray, List.getElem_cons_succ, List.getElem_cons_zero, List.setIfInBounds_toArray, List.set_cons_succ, List.set_cons_zero]
      refine wpAnyL_take (i := 18) (f0 := 26) (v := undef) rfl (by decide +kernel) (by decide +kernel) (by decide +kernel) (by decide +kernel) (by decide +kernel) (fun _ _ _ h => h) (Or.inr ⟨by rfl, rfl⟩) hS2 ?_
      simp only [Act.put, List.getElem_toArray, List.getElem_cons_succ, List.getElem_cons_zero, List.setIfInBounds_toArray, List.set_cons_succ, List.set_cons_zero]
      refine wpAnyL_take (i := 19) (f0 := 26) (v := undef) rfl (by decide +kernel) (by decide +kernel) (by decide +kernel) (by decide +kernel) (by decide +kernel) (fun _ _ _ h => h) (Or.inr ⟨by rfl, rfl⟩) hS2 ?_
      simp only [Act.put, List.getElem_toArray, List.getElem_cons_succ, List.getElem_cons_zero, List.setIfInBounds_toArray, List.set_cons_succ, List.set_cons_zero]
      refine wpAnyL_take (i := 20) (f0 := 26) (v := undef) rfl (by decide +kernel) (by decide +kernel) (by decide +kernel) (by decide +kernel) (by decide +kernel) (fun _ _ _ h => h) (Or.inr ⟨by rfl, rfl⟩) hS2 ?_
      simp only [Act.put, List.getElem_toArray, List.getElem_cons_succ, List.getElem_cons_zero, List.setIfInBounds_toArray, List.set_cons_succ, List.set_cons_zero]
      refine wpAnyL_take (i := 21) (f0 := 26) (v := undef) rfl (by decide +kernel) (by decide +kernel) (by decide +kernel) (by decide +kernel) (by decide +kernel) (fun _ _ _ h => h) (Or.inr ⟨by rfl, rfl⟩) hS2 ?_
      simp only [Act.put, List.getElem_toArray, List.getElem_cons_succ, List.getElem_cons_zero, List.setIfInBounds_toArray, List.set_cons_succ, List.set_cons_zero]
      refine wpAnyL_take (i := 22) (f0 := 26) (v := ?_) rfl (by decide +kernel) (by decide +kernel) (by decide +kernel) (by decide +kernel) (by decide +kernel) (fun _ _ _ h => h) (Or.inl ⟨by rfl, ?_⟩) hS2 ?_
      rotate_left
      · intro wS hS; go_simp; (try with_reducible rfl)
      simp only [Act.put, List.getElem_toArray, List.getElem_cons_succ, List.getElem_cons_zero, List.setIfInBounds_toArray, List.set_cons_succ, List.set_cons_zero]
      refine wpAnyL_take (i := 23) (f0 := 26) (v := ?_) rfl (by decide +kernel) (by decide +kernel) (by decide +kernel) (by decide +kernel) (by decide +kernel) (fun _ _ _ h => h) (Or.inl ⟨by rfl, ?_⟩) hS2 ?_
      rotate_left
      · intro wS hS; go_simp; (try with_reducible rfl)
      simp only [Act.put, List.getElem_toArray, List.getElem_cons_succ, List.getElem_cons_zero, List.setIfInBounds_toArray, List.set_cons_succ, List.set_cons_zero]
      refine wpAnyL_done (by decide +kernel) ?_ _
      refine NoPanic.normal ?_
      go_wp2
      go_ret
      exact ⟨ret_bool E9.out, hb2⟩
end Go.Proofs.YtobhpeockinnjaaGreatDoor
/- Was of package proof. No conditions but those that each theorem states. -/
namespace Go.Proofs.YtobhpeockinnjaaGreatDoor
open Go Go.RowKit Go.Sort Go.Maps
def wasE (l : List Dy) (day : Int) (p : Pf) : Int := match foundD l day with
  | none => 11
  | some (c, r) => if c = p.count ∧ checkP r p = true then 0 else 21
theorem pwas_nil (day : Int) (p : Pf) (A : Option Addr) (m c : Nat) (w : World) :
    Calls Tryz.prog 26 #[.pointer none, .int .i64 day, .agg #[.int .i64 p.count, .int .i64 p.idx, .int .i64 p.it.kind, .string p.it.id, .string p.it.parent, .string p.it.number, .string p.it.north, .string p.it.south, .bool p.it.gone, .slice A m c]] w fun e w' => e = .returned (.int .i64 1) ∧ Below w.heap.size w w' := by
  have hx1 := Below.news (Below.refl w.heap.size w) (.cells #[.int .i64 p.count, .int .i64 p.idx, .int .i64 p.it.kind, .string p.it.id, .string p.it.parent, .string p.it.number, .string p.it.north, .string p.it.south, .bool p.it.gone, .slice A m c] 29)
  go_enter Tryz.func26, Tryz.ntmps26
  go_wp2
  go_ret
  exact ⟨rfl, hx1⟩
set_option maxRecDepth 100000 in
set_option maxHeartbeats 16000000 in
theorem pwas_of (br mb : Nat) (key : ByteArray) (l : List Dy) (day : Int) (d0 : -9223372036854775808 ≤ day) (d1 : day ≤ 9223372036854775807) (p : Pf) (A : Option Addr) (m c : Nat) (hm : p.path.length = m) (hm2 : m ≤ 1048576) (hps : ∀ s ∈ p.path, s.size ≤ 1048576) (hz : ∀ s ∈ leafS p.it, s.size ≤ 10000)
    (w : World) (he : Env w) (hS : Strs w w.heap.size A p.path) (hR : Rd br mb key l w) (E : Int) (hE : wasE l day p = E) :
    Calls Tryz.prog 26 #[.pointer (some ⟨br, 0, none⟩), .int .i64 day, .agg #[.int .i64 p.count, .int .i64 p.idx, .int .i64 p.it.kind, .string p.it.id, .string p.it.parent, .string p.it.number, .string p.it.north, .string p.it.south, .bool p.it.gone, .slice A m c]] w fun e w' => e = .returned (.int .i64 E) ∧ Below w.heap.size w w' := by
  have hx1 := Below.news (Below.refl w.heap.size w) (.cells #[.int .i64 p.count, .int .i64 p.idx, .int .i64 p.it.kind, .string p.it.id, .string p.it.parent, .string p.it.number, .string p.it.north, .string p.it.south, .bool p.it.gone, .slice A m c] 29)
  have hr1 := heap_alloc_new w (.cells #[.int .i64 p.count, .int .i64 p.idx, .int .i64 p.it.kind, .string p.it.id, .string p.it.parent, .string p.it.number, .string p.it.north, .string p.it.south, .bool p.it.gone, .slice A m c] 29)
  have hP1 := keepS hS hx1
  have hR1 := hR.below hx1
  have he1 := he.next hx1
  have HM := hide hm; have HPS := hide hps; have HZ := hide hz; have HE := hide hE
  clear hm hps hz hE hS hR he
  obtain ⟨hlk1, hlk2⟩ := days_look hR1.map day d0 d1
  obtain ⟨q0, q1⟩ := jCells2' hR1.row
  go_enter Tryz.func26, Tryz.ntmps26
  cases hf : foundD l day with
  | none =>
    have hrun := hlk2 hf
    have E9 := hide (show (11 : Int) = E by rw [← HE.out]; unfold wasE; rw [hf])
    have hx2 := hide (Below.news (Below.refl (w.alloc (.cells #[.int .i64 p.count, .int .i64 p.idx, .int .i64 p.it.kind, .string p.it.id, .string p.it.parent, .string p.it.number, .string p.it.north, .string p.it.south, .bool p.it.gone, .slice A m c] 29)).heap.size (w.alloc (.cells #[.int .i64 p.count, .int .i64 p.idx, .int .i64 p.it.kind, .string p.it.id, .string p.it.parent, .string p.it.number, .string p.it.north, .string p.it.south, .bool p.it.gone, .slice A m c] 29))) (.cells #[.int .i64 0, .string ⟨#[]⟩] 94))
    clear hlk1 hlk2 hf
    go_wp2
    go_ret
    exact ⟨ret_err E9.out, bnext hx1 hx2.out⟩
  | some q =>
    obtain ⟨cc, rr⟩ := q
    have hrun := hlk1 cc rr hf
    have hx2 := Below.news (Below.refl (w.alloc (.cells #[.int .i64 p.count, .int .i64 p.idx, .int .i64 p.it.kind, .string p.it.id, .string p.it.parent, .string p.it.number, .string p.it.north, .string p.it.south, .bool p.it.gone, .slice A m c] 29)).heap.size (w.alloc (.cells #[.int .i64 p.count, .int .i64 p.idx, .int .i64 p.it.kind, .string p.it.id, .string p.it.parent, .string p.it.number, .string p.it.north, .string p.it.south, .bool p.it.gone, .slice A m c] 29))) (.cells #[.int .i64 cc, .string rr] 94)
    have hr2 := heap_alloc_new (w.alloc (.cells #[.int .i64 p.count, .int .i64 p.idx, .int .i64 p.it.kind, .string p.it.id, .string p.it.parent, .string p.it.number, .string p.it.north, .string p.it.south, .bool p.it.gone, .slice A m c] 29)) (.cells #[.int .i64 cc, .string rr] 94)
    have hs1 : (w.alloc (.cells #[.int .i64 p.count, .int .i64 p.idx, .int .i64 p.it.kind, .string p.it.id, .string p.it.parent, .string p.it.number, .string p.it.north, .string p.it.south, .bool p.it.gone, .slice A m c] 29)).heap.size = w.heap.size + 1 := by simp
    rw [hs1] at hr2
    clear hlk1 hlk2 hs1
    go_upto_region 4 with (fail)
    have hr1' := iNext hr1 hx2
    have hP2 := keepS hP1 hx2
    have he2 := he1.next hx2
    have hb2 := bnext hx1 hx2
    clear hr1 hP1 he1 hx1 hx2 hrun q0 q1 hR1
    generalize (w.alloc (.cells #[.int .i64 p.count, .int .i64 p.idx, .int .i64 p.it.kind, .string p.it.id, .string p.it.parent, .string p.it.number, .string p.it.north, .string p.it.south, .bool p.it.gone, .slice A m c] 29)).alloc (.cells #[.int .i64 cc, .string rr] 94) = w2 at *
    obtain ⟨y0, y1⟩ := jCells2' hr2
    obtain ⟨z0, z1, z2, z3, z4, z5, z6, z7, z8, z9⟩ := jCells10 hr1'
    by_cases hcc : cc = p.count
    · have hbb : (cc == p.count) = true := beq_iff_eq.2 hcc
      have hbn : (cc != p.count) = false := by rw [bne, hbb]; rfl
      obtain ⟨V, hV⟩ : ∃ V, checkP rr p = V := ⟨_, rfl⟩
      have E9 := hide (show (if V = true then 0 else 21 : Int) = E by
        rw [← HE.out]; unfold wasE; rw [hf]; simp only [hcc, true_and, hV])
      clear hf hcc
      go_wp2_with fail
      refine (pcheck_of rr p A m c HM.out hm2 HPS.out HZ.out w2 he2 hP2 V hV).mono ?_
      rintro e w3 ⟨rfl, hx3⟩
      have hb3 := bnext hb2 hx3
      clear hV hx3 hP2 he2 y0 y1 z0 z1 z2 z3 z4 z5 z6 z7 z8 z9 hr1' hr2
      cases V with
      | true =>
        go_wp2
        go_ret
        exact ⟨ret_err E9.out, hb3⟩
      | false =>
        go_wp2
        go_ret
        exact ⟨ret_err E9.out, hb3⟩
    · have hbb : (cc == p.count) = false := beq_eq_false_iff_ne.2 hcc
      have hbn : (cc != p.count) = true := by rw [bne, hbb]; rfl
      have E9 := hide (show (21 : Int) = E by
        rw [← HE.out]; unfold wasE; rw [hf]; exact (if_neg (fun h => hcc h.1)).symm)
      clear hf hcc
      go_wp2
      go_ret
      exact ⟨ret_err E9.out, hb2⟩
end Go.Proofs.YtobhpeockinnjaaGreatDoor
/- Find and In of the reference. No conditions but those that each theorem states. -/
namespace Go.Proofs.YtobhpeockinnjaaGreatDoor
open Go Go.RowKit Go.Sort Go.Maps
set_option maxRecDepth 100000 in
set_option maxHeartbeats 8000000 in
theorem rfind_of (l : List Dg.It) (A : Option Addr) (n c : Nat) (hl : l.length = n) (hn : n ≤ 9223372036854775807) (id : ByteArray) (w : World) (hI : Its w w.heap.size A l) (K0 : Int) (hK0 : findX l id = K0) :
    Calls Tryz.prog 83 #[.agg #[.slice A n c], .string id] w fun e w' => e = .returned (.int .i64 K0) ∧ Below w.heap.size w w' := by
  have hx1 := Below.news (Below.refl w.heap.size w) (.cells #[.slice A n c] 24)
  have hrow := heap_alloc_new w (.cells #[.slice A n c] 24)
  have hI1 := hI.keep hx1
  have HL := hide hl; have HK := hide hK0
  clear hl hK0 hI
  go_enter Tryz.func83, Tryz.ntmps83
  go_wp2
  generalize w.alloc (.cells #[.slice A n c] 24) = w1 at *
  have hc := iCells0 hrow
  go_loop [5] (fun iv => ∃ k : Nat, k ≤ n ∧ iv = .int .i64 (k : Int) ∧ Hid (∀ x ∈ l.take k, x.id ≠ id)) (fun iv => n - (intOf iv).toNat)
  case atStart => exact ⟨0, by omega, rfl, fun x hx => by simp at hx⟩
  case round =>
    obtain ⟨k, hk, rfl, hall⟩ := hrel
    by_cases hlt : k < n
    · have hkn : (k : Int) < (n : Int) := by omega
      have hk0 : (0 : Int) ≤ (k : Int) := by omega
      have hkl : k < l.length := by rw [HL.out]; exact hlt
      obtain ⟨b, off, rfl⟩ := hI1.some hkl
      obtain ⟨x, hx⟩ : ∃ x, l[k] = x := ⟨_, rfl⟩
      obtain ⟨_, p0, p1, p2, p3, p4, p5, p6⟩ := hI1.cells hkl x hx
      have HX := hide hx
      clear hx p0 p2 p3 p4 p5 p6
      by_cases he : x.id = id
      · have hb := bs_yes he
        have E9 := hide (show (k : Int) = K0 by rw [← HK.out]; exact (findX_at hkl (by rw [HX.out]; exact he) hall.out).symm)
        clear he
        go_wp2
        go_ret
        exact ⟨ret_intV E9.out, hx1⟩
      · have hb := bs_no he
        have HE := hide he
        clear he
        go_wp2
        go_round
        case rel => exact ⟨k + 1, by omega, by go_num, fun y hy => by
          rw [List.take_succ_eq_append_getElem hkl, HX.out] at hy
          rcases List.mem_append.1 hy with h | h
          · exact hall.out y h
          · rw [List.mem_singleton.1 h]; exact HE.out⟩
        case measure => simp [intOf]; omega
    · obtain rfl : k = n := by omega
      have E9 := hide (show (-1 : Int) = K0 by rw [← HK.out]; exact (findX_none (by have h := hall.out; rw [← HL.out, List.take_length] at h; exact h)).symm)
      go_wp2
      go_ret
      exact ⟨ret_intV E9.out, hx1⟩
set_option maxHeartbeats 4000000 in
theorem rin_of (l : List ByteArray) (A : Option Addr) (n c : Nat) (hl : l.length = n) (hn : n ≤ 9223372036854775807) (s : ByteArray) (w : World) (hS : Strs w w.heap.size A l) (R : Bool) (hR : Dg.inB l s = R) :
    Calls Tryz.prog 120 #[.slice A n c, .string s] w fun e w' => e = .returned (.bool R) ∧ w' = w := by
  have HL := hide hl; have HR := hide hR
  clear hl hR
  go_enter Tryz.func120, Tryz.ntmps120
  go_wp2
  go_loop [5] (fun iv => ∃ k : Nat, k ≤ n ∧ iv = .int .i64 (k : Int) ∧ Hid (∀ x ∈ l.take k, x ≠ s)) (fun iv => n - (intOf iv).toNat)
  case atStart => exact ⟨0, by omega, rfl, fun x hx => by simp at hx⟩
  case round =>
    obtain ⟨k, hk, rfl, hall⟩ := hrel
    by_cases hlt : k < n
    · have hkn : (k : Int) < (n : Int) := by omega
      have hk0 : (0 : Int) ≤ (k : Int) := by omega
      have hkl : k < l.length := by rw [HL.out]; exact hlt
      obtain ⟨b, off, rfl, _, hc⟩ := hS.get hkl
      obtain ⟨x, hx⟩ : ∃ x, l[k] = x := ⟨_, rfl⟩
      rw [hx] at hc
      have HX := hide hx
      clear hx
      by_cases he : x = s
      · have hb := bs_yes he
        have E9 := hide (show true = R by rw [← HR.out]; exact ((Dg.inB_iff l s).2 (by rw [← he, ← HX.out]; exact List.getElem_mem hkl)).symm)
        clear he
        go_wp2
        go_ret
        exact ⟨ret_bool E9.out, rfl⟩
      · have hb := bs_no he
        have HE := hide he
        clear he
        go_wp2
        go_round
        case rel => exact ⟨k + 1, by omega, by go_num, fun y hy => by
          rw [List.take_succ_eq_append_getElem hkl, HX.out] at hy
          rcases List.mem_append.1 hy with h | h
          · exact hall.out y h
          · rw [List.mem_singleton.1 h]; exact HE.out⟩
        case measure => simp [intOf]; omega
    · obtain rfl : k = n := by omega
      have E9 := hide (show false = R by rw [← HR.out]; exact ((Dg.inB_no l s).2 (fun hm => by have h := hall.out; rw [← HL.out, List.take_length] at h; exact h s hm rfl)).symm)
      go_wp2
      go_ret
      exact ⟨ret_bool E9.out, rfl⟩
end Go.Proofs.YtobhpeockinnjaaGreatDoor
/- Validity as the reference has it: ancestors by going up; it is the walk's. In plain Lean, no program in sight. -/
namespace Go.Proofs.YtobhpeockinnjaaGreatDoor.Dg
open Go
/-- What is open: each open division is an item that came, whose ancestors are those open before it. -/
def StackOk (l : List It) (vs : List (List ByteArray)) (k : Nat) (op : List ByteArray) : Prop :=
  ∀ (t : Nat) (d : ByteArray), op[t]? = some d → ∃ (j : Nat) (x : It), j < k ∧ l[j]? = some x ∧ x.id = d ∧ x.kind = 1 ∧ vs[j]? = some (op.take t)
theorem stack_take {l : List It} {vs : List (List ByteArray)} {k : Nat} {op : List ByteArray} (h : StackOk l vs k op) (n : Nat) : StackOk l vs k (op.take n) := fun t d ht => by
  have htn : t < n := by
    have := (List.getElem?_eq_some_iff.1 ht).1
    rw [List.length_take] at this
    omega
  rw [List.getElem?_take_of_lt htn] at ht
  obtain ⟨j, x, h1, h2, h3, h4, h5⟩ := h t d ht
  exact ⟨j, x, h1, h2, h3, h4, by rw [List.take_take, Nat.min_eq_left (by omega)]; exact h5⟩
theorem stack_more {l : List It} {vs vs' : List (List ByteArray)} {k : Nat} {op : List ByteArray} (h : StackOk l vs k op) (hv : ∀ j, j < k → vs'[j]? = vs[j]?) : StackOk l vs' (k + 1) op := fun t d ht => by
  obtain ⟨j, x, h1, h2, h3, h4, h5⟩ := h t d ht
  exact ⟨j, x, by omega, h2, h3, h4, by rw [hv j h1]; exact h5⟩
theorem walk_stack {l : List It} : ∀ {k : Nat} (_ : k ≤ l.length) {vs : List (List ByteArray)} {s : Wk}, walkTo l k = some (vs, s) → StackOk l vs k s.op ∧ ∀ j o, vs[j]? = some o → StackOk l vs j o
  | 0, _, vs, s, h => by cases h; exact ⟨fun t d ht => by simp at ht, fun j o ho => by simp at ho⟩
  | k + 1, hk, vs, s, h => by
    have hk' : k < l.length := by omega
    obtain ⟨vs0, s0, o, h1, h2, rfl⟩ := walk_step hk' h
    obtain ⟨a1, a2⟩ := walk_stack (by omega) h1
    have hl := walk_len (by omega) h1
    obtain ⟨_, _, k', _, b4, _, b6⟩ := stepI_some h2
    have hv : ∀ j, j < k → (vs0 ++ [o])[j]? = vs0[j]? := fun j hj => List.getElem?_append_left (by omega)
    have ho : StackOk l (vs0 ++ [o]) (k + 1) o := by rw [b4]; exact stack_more (stack_take a1 k') (fun j hj => by rw [← b4]; exact hv j hj)
    refine ⟨?_, fun j o' ho' => ?_⟩
    · rw [b6]
      split
      · rename_i hkind
        intro t d ht
        rcases Nat.lt_or_ge t o.length with h3 | h3
        · rw [List.getElem?_append_left h3] at ht
          obtain ⟨j, x, c1, c2, c3, c4, c5⟩ := ho t d ht
          exact ⟨j, x, c1, c2, c3, c4, by rw [List.take_append_of_le_length (by omega)]; exact c5⟩
        · have h4 : t = o.length := by
            have := (List.getElem?_eq_some_iff.1 ht).1
            rw [List.length_append, List.length_singleton] at this
            omega
          subst h4
          rw [List.getElem?_append_right (Nat.le_refl _), Nat.sub_self] at ht
          obtain rfl : l[k].id = d := by simpa using ht
          refine ⟨k, l[k], by omega, List.getElem?_eq_getElem hk', rfl, hkind, ?_⟩
          rw [List.getElem?_append_right (by omega), hl, Nat.sub_self, List.take_left]
          rfl
      · exact ho
    · rcases Nat.lt_or_ge j k with h3 | h3
      · rw [List.getElem?_append_left (by omega)] at ho'
        have h5 := a2 j o' ho'
        intro t d ht
        obtain ⟨i, x, c1, c2, c3, c4, c5⟩ := h5 t d ht
        exact ⟨i, x, c1, c2, c3, c4, by rw [hv i (by omega)]; exact c5⟩
      · have h4 : j = k := by
          have := (List.getElem?_eq_some_iff.1 ho').1
          rw [List.length_append, List.length_singleton] at this
          omega
        subst h4
        rw [List.getElem?_append_right (by omega), hl, Nat.sub_self] at ho'
        obtain rfl : o = o' := by simpa using ho'
        rw [b4]
        intro t d ht
        obtain ⟨i, x, c1, c2, c3, c4, c5⟩ := stack_take a1 k' t d ht
        exact ⟨i, x, c1, c2, c3, c4, by rw [← b4, hv i c1]; rw [← b4] at c5; exact c5⟩
/-- The parent's ancestors and the parent: what is open at a visit. -/
theorem visit_up {l : List It} {n : Nat} (hn : n ≤ l.length) {vs : List (List ByteArray)} {s : Wk} (h : walkTo l n = some (vs, s)) {k : Nat} (hk : k < n) : (l[k].parent = nil8 ∧ vs[k]? = some []) ∨ (l[k].parent ≠ nil8 ∧ ∃ (j : Nat) (x : It) (o : List ByteArray), j < k ∧ l[j]? = some x ∧ x.id = l[k].parent ∧ x.kind = 1 ∧ vs[j]? = some o ∧ vs[k]? = some (o ++ [l[k].parent])) := by
  obtain ⟨s1, h1⟩ := walk_le hn h (k + 1) (by omega)
  obtain ⟨vs0, s0, o0, w0, st0, e0⟩ := walk_step (l := l) (k := k) (by omega) h1
  have l0 := walk_len (by omega) w0
  have a0 : (vs.take (k + 1))[k]? = some o0 := by rw [e0, List.getElem?_append_right (by omega), l0]; simp
  rw [List.getElem?_take_of_lt (by omega)] at a0
  obtain ⟨hs, _⟩ := walk_stack (by omega) w0
  obtain ⟨_, _, j, c2, c3, _, _⟩ := stepI_some st0
  unfold kOf at c2
  by_cases hp : l[k].parent = nil8
  · rw [if_pos hp] at c2
    injection c2 with c2
    refine Or.inl ⟨hp, ?_⟩
    rw [a0, c3, ← c2]; rfl
  · rw [if_neg hp] at c2
    split at c2
    · rename_i hin
      injection c2 with c2
      have hf : (s0.op.findIdx fun d => decide (d = l[k].parent)) < s0.op.length := List.findIdx_lt_length_of_exists ⟨_, (inB_iff _ _).1 hin, decide_eq_true rfl⟩
      have hg2 := of_decide_eq_true (List.findIdx_getElem (w := hf))
      generalize (s0.op.findIdx fun d => decide (d = l[k].parent)) = t at *
      obtain ⟨i, x, d1, d2, d3, d4, d5⟩ := hs t l[k].parent (by rw [List.getElem?_eq_getElem hf, hg2])
      refine Or.inr ⟨hp, i, x, s0.op.take t, d1, d2, d3, d4, ?_, ?_⟩
      · have : (vs.take (k + 1))[i]? = some (s0.op.take t) := by rw [e0, List.getElem?_append_left (by omega)]; exact d5
        rw [List.getElem?_take_of_lt (by omega)] at this
        exact this
      · rw [a0, c3, ← c2, List.take_succ_eq_append_getElem hf, hg2]
    · cases c2
/-- The item with a name. -/
def findI (l : List It) (d : ByteArray) : Option It := l.find? fun x => decide (x.id = d)
/-- Going up from a name, the nearest one first. -/
def chainR (l : List It) : Nat → ByteArray → List ByteArray
  | 0, _ => []
  | f + 1, d => if d = nil8 then [] else d :: (match findI l d with | none => [] | some x => chainR l f x.parent)
theorem find_at {l : List It} {n : Nat} (hn : n ≤ l.length) {vs : List (List ByteArray)} {s : Wk} (h : walkTo l n = some (vs, s)) {k : Nat} (hk : k < n) : findI l l[k].id = some l[k] := by
  obtain ⟨_, _, _, h2, _⟩ := visit_at hn h hk
  unfold findI
  have hsp : l = l.take k ++ l[k] :: l.drop (k + 1) := by
    rw [← List.drop_eq_getElem_cons (by omega), List.take_append_drop]
  conv => lhs; arg 2; rw [hsp]
  rw [List.find?_append]
  have hnone : (l.take k).find? (fun x => decide (x.id = l[k].id)) = none := by
    rw [List.find?_eq_none]
    intro x hx hd
    exact h2 (List.mem_map.2 ⟨x, hx, of_decide_eq_true hd⟩)
  rw [hnone, List.find?_cons_of_pos (by simp)]
  rfl
/-- Going up finds what is open. -/
theorem chain_eq {l : List It} {n : Nat} (hn : n ≤ l.length) {vs : List (List ByteArray)} {s : Wk} (h : walkTo l n = some (vs, s)) : ∀ (k : Nat) (_ : k < n) (f : Nat), k < f → ∀ o, vs[k]? = some o → chainR l f l[k].parent = o.reverse := by
  intro k
  induction k using Nat.strongRecOn with
  | _ k ih =>
    intro hk f hf o ho
    obtain ⟨f, rfl⟩ : ∃ g, f = g + 1 := ⟨f - 1, by omega⟩
    rcases visit_up hn h hk with ⟨hp, hv⟩ | ⟨hp, j, x, o1, hj, hx, hid, _, hv1, hv⟩
    · rw [ho] at hv
      injection hv with hv
      rw [chainR, if_pos hp, hv]; rfl
    · rw [ho] at hv
      injection hv with hv
      obtain ⟨hjl, hx2⟩ := List.getElem?_eq_some_iff.1 hx
      have hfi := find_at hn h (k := j) (by omega)
      rw [hx2, hid] at hfi
      have := ih j hj (by omega) f (by omega) o1 hv1
      rw [hx2] at this
      rw [chainR, if_neg hp, hfi, hv, List.reverse_append]
      simp only
      rw [this]
      rfl
end Go.Proofs.YtobhpeockinnjaaGreatDoor.Dg
/- Chain of the reference. No conditions but those that each theorem states. -/
namespace Go.Proofs.YtobhpeockinnjaaGreatDoor
open Go Go.RowKit Go.Sort Go.Maps
/-- A code in its variable, and its items. -/
structure CR (g : Nat) (A : Option Addr) (n c : Nat) (l : List Dg.It) (X : World) : Prop where
  row : X.heap[g]? = some (.cells #[.slice A n c] 24 (0, 0))
  its : Its X X.heap.size A l
theorem CR.below {g : Nat} {A : Option Addr} {n c : Nat} {l : List Dg.It} {X X' : World} (h : CR g A n c l X) (hb : Below X.heap.size X X') : CR g A n c l X' := ⟨iNext h.row hb, h.its.keep hb⟩
theorem findX_walk {l : List Dg.It} {N : Nat} (hN : N ≤ l.length) {vs : List (List ByteArray)} {s : Dg.Wk} (hW : Dg.walkTo l N = some (vs, s)) {j : Nat} (hj : j < N) : findX l l[j].id = (j : Int) := by
  obtain ⟨_, _, _, h2, _⟩ := Dg.visit_at hN hW hj
  exact findX_at (by omega) rfl fun y hy e => h2 (List.mem_map.2 ⟨y, hy, e⟩)
set_option maxRecDepth 100000 in
set_option maxHeartbeats 8000000 in
theorem rchainC_of (l : List Dg.It) (A : Option Addr) (n c : Nat) (hl : l.length = n) (hn : n ≤ 1048576) (w : World) (hI : Its w w.heap.size A l) (N : Nat) (hN : N ≤ l.length) (vs : List (List ByteArray)) (s : Dg.Wk) (hW : Dg.walkTo l N = some (vs, s)) (i : Nat) (hi : i < N) (o : List ByteArray) (ho : vs[i]? = some o) (m : Nat) (hm : o.length = m) (hmn : m ≤ n) :
    Calls Tryz.prog 121 #[.agg #[.slice A n c], .int .i64 (i : Int)] w fun e w' => (∃ A' c', e = .returned (.slice A' m c') ∧ Strs w' w'.heap.size A' o.reverse) ∧ Below w.heap.size w w' := by
  have hx1 := Below.news (Below.refl w.heap.size w) (.cells #[.slice A n c] 24)
  have hS1 : CR w.heap.size A n c l (w.alloc (.cells #[.slice A n c] 24)) := ⟨heap_alloc_new w _, hI.keep hx1⟩
  have HI := hide hI
  have HL := hide hl; have HW := hide hW; have HO := hide ho; have HM := hide hm
  clear hl hI hW ho hm
  have hmx : Tryz.prog.follows .mixedOrders = true := by kernel_rfl
  go_enter Tryz.func121, Tryz.ntmps121
  have hin : (i : Int) < (n : Int) := by have := HL.out; omega
  have hi0 : (0 : Int) ≤ (i : Int) := by omega
  have hil : i < l.length := by omega
  obtain ⟨b, off, rfl⟩ := hS1.its.some hil
  obtain ⟨x, hx⟩ : ∃ x, l[i] = x := ⟨_, rfl⟩
  have hc := iCells0 hS1.row
  obtain ⟨_, p0, p1, p2, p3, p4, p5, p6⟩ := hS1.its.cells hil x hx
  clear p0 p1 p3 p4 p5 p6
  go_wp2
  go_loopw [5, 6] (fun v d wr => ∃ (k : Nat) (q o' : List ByteArray) (x : Dg.It), k < N ∧ l[k]? = some x ∧ d = .string x.parent ∧ Hid (vs[k]? = some o' ∧ o.reverse = q ++ o'.reverse) ∧ OwnS wr (w.heap.size + 1) v q ∧ CR w.heap.size (some ⟨b, off, none⟩) n c l wr ∧ Below w.heap.size w wr) (fun v _ _ => m - sliceLen v)
  case atStart => exact ⟨i, [], o, x, hi, by rw [List.getElem?_eq_getElem hil, hx], rfl, ⟨HO.out, rfl⟩, OwnS.nil _ _, hS1, hx1⟩
  case round =>
    clear hS1 hx1 hc p2 hx
    obtain ⟨k, q, o', y, hk, hy, rfl, hq, hO, hS, hb⟩ := hrel
    obtain ⟨A5, c5, rfl, _, hS5⟩ := hO.strs
    have hkl : k < l.length := by omega
    have hyk : l[k] = y := by rw [List.getElem?_eq_getElem hkl] at hy; injection hy
    have hpe : y.parent.toList.isEmpty = decide (y.parent = Dg.nil8) := (emp_iff _).symm
    rcases Dg.visit_up hN HW.out hk with ⟨hp, hv⟩ | ⟨hp, j, z, o1, hj, hz, hid, _, hv1, hv⟩
    · rw [hyk] at hp
      have ho0 : o' = [] := by rw [hq.out.1] at hv; injection hv
      have hqo : o.reverse = q := by have h := hq.out.2; rw [ho0] at h; simpa using h
      have hqm : q.length = m := by rw [← hqo, List.length_reverse, HM.out]
      rw [decide_eq_true hp] at hpe
      rw [← hqo] at hS5
      rw [hqm]
      have HS5 := hide hS5
      clear hp hv ho0 hqo hyk hy hS5 hO
      go_wp2
      go_ret
      exact ⟨⟨A5, c5, rfl, HS5.out⟩, hb⟩
    · rw [hyk] at hp hid hv
      rw [decide_eq_false hp] at hpe
      have hq1 : o.reverse = (q ++ [y.parent]) ++ o1.reverse := by
        have h := hq.out.2
        rw [hq.out.1] at hv
        injection hv with hv
        rw [hv, List.reverse_append] at h
        rw [h, List.append_assoc]
        rfl
      have hlt : q.length + 1 ≤ m := by
        have h := congrArg List.length hq1
        rw [List.length_reverse, HM.out, List.length_append, List.length_append] at h
        simp only [List.length_singleton] at h
        omega
      have hjl : j < l.length := by omega
      have hzj : l[j] = z := by rw [List.getElem?_eq_getElem hjl] at hz; injection hz
      have hfx : findX l y.parent = (j : Int) := by rw [← hid, ← hzj]; exact findX_walk hN HW.out (by omega)
      have HQ := hide (And.intro hv1 hq1); have HZ := hide hz; have HF := hide hfx; have HZJ := hide hzj
      clear hp hv hid hv1 hq1 hyk hy hz hfx hzj hq
      have LITX := hide (Below.news (Below.refl wr.heap.size wr) (.cells #[.string y.parent] 9))
      have Strs1 : Hid (∀ (j : Nat) s, [y.parent][j]? = some s → (wr.alloc (.cells #[.string y.parent] 9)).cell? ((⟨wr.heap.size, 0, none⟩ : Addr).add j) = some (.string s)) := fun j s hj => by
        rw [addr_off, cell_of_row _ _ _ _ _ (0, 0) (heap_alloc_new wr _), Nat.zero_add, ← Array.getElem?_toList]
        have h9 : ([y.parent].map Value.string)[j]? = some (.string s) := by rw [List.getElem?_map, hj]; rfl
        exact h9
      have HB1 := hide (show w.heap.size + 1 ≤ wr.heap.size by have := lt_of_block hS.row; omega)
      have HBW := hide hb
      go_upto_region 5 with (at_builtin; refine step_ag rfl (.tmp 15) (.tmp 17) rfl (w.heap.size + 1) (.slice A5 q.length c5) q [y.parent] rfl (OwnS.below hO LITX.out) ⟨wr.heap.size, 0, none⟩ 1 1 rfl rfl (Strs1.out) (by omega) (Nat.le_trans HB1.out LITX.out.size) ?_; intro v8 u8 hO8 hg8 hat8; obtain ⟨A8, c8, e8, _, _⟩ := hO8.strs; subst e8)
      have hb8 := grown_up (bnext HBW.out LITX.out) hg8 (fun g hg => by have := (OwnV.lt hO hg).1; omega)
      have hr8 := grown_row hg8 (iNext hS.row LITX.out) (fun g hg => by have := (OwnV.lt hO hg).1; omega)
      have hS8 : CR w.heap.size (some ⟨b, off, none⟩) n c l u8 := ⟨hr8, (HI.out.below hb8).more hb8.size⟩
      clear hr8 hg8 hat8 hO hb hS HB1 LITX Strs1
      try clear hc1
      try clear hc2
      refine wp_region_noPanic ?_
      refine wp_region_L (CR w.heap.size (some ⟨b, off, none⟩) n c l) 9 hmx ?_
      have hdr := (Below.refl u8.heap.size u8).drew
      have hS9 : (CR w.heap.size (some ⟨b, off, none⟩) n c l) u8.drew := hS8.below hdr
      have hb9 := bnext hb8 hdr
      have hO9 := OwnS.below hO8 hdr
      clear hO8 hdr hS8 hb8
      generalize u8.drew = w9 at *
      have hj0 : (0 : Int) ≤ (j : Int) := by omega
      have hjn : (j : Int) < (n : Int) := by have := HL.out; omega
      refine wpAnyL_take (i := 0) (f0 := 11) (v := ?_) rfl (by decide +kernel) (by decide +kernel) (by decide +kernel) (by decide +kernel) (by decide +kernel) (fun _ _ _ h => h) (Or.inl ⟨by rfl, ?_⟩) hS9 ?_
      rotate_left
      · intro wS hS; go_simp; (try with_reducible rfl)
      simp only [Act.put, List.getElem_toArray, List.getElem_cons_zero, List.setIfInBounds_toArray, List.set_cons_succ, List.set_cons_zero]
      refine wpAnyL_take (i := 1) (f0 := 11) (v := ?_) rfl (by decide +kernel) (by decide +kernel) (by decide +kernel) (by decide +kernel) (by decide +kernel) (fun _ _ _ h => h) (Or.inl ⟨by rfl, ?_⟩) hS9 ?_
      rotate_left
      · intro wS hS; have c9 := iCells0 hS.row; go_simp; (try with_reducible rfl)
      simp only [Act.put, List.getElem_toArray, List.getElem_cons_succ, List.getElem_cons_zero, List.setIfInBounds_toArray, List.set_cons_succ, List.set_cons_zero]
      refine wpAnyL_take (i := 2) (f0 := 11) (v := ?_) rfl (by decide +kernel) (by decide +kernel) (by decide +kernel) (by decide +kernel) (by decide +kernel) (fun _ _ _ h => h) (Or.inl ⟨by rfl, ?_⟩) hS9 ?_
      rotate_left
      · intro wS hS; have c9 := iCells0 hS.row; go_simp; (try with_reducible rfl)
      simp only [Act.put, List.getElem_toArray, List.getElem_cons_succ, List.getElem_cons_zero, List.setIfInBounds_toArray, List.set_cons_succ, List.set_cons_zero]
      refine wpAnyL_take (i := 3) (f0 := 11) (v := ?_) rfl (by decide +kernel) (by decide +kernel) (by decide +kernel) (by decide +kernel) (by decide +kernel) (fun _ _ _ h => h) (Or.inl ⟨by rfl, ?_⟩) hS9 ?_
      rotate_left
      · intro wS hS; go_simp; (try with_reducible rfl)
      simp only [Act.put, List.getElem_toArray, List.getElem_cons_succ, List.getElem_cons_zero, List.setIfInBounds_toArray, List.set_cons_succ, List.set_cons_zero]
      refine wpAnyL_one (i := 4) (by decide +kernel) (by rfl) (fun K hK => ?_)
      rw [if_pos (by rfl)]
      go_simp
      refine (rfind_of l (some ⟨b, off, none⟩) n c HL.out (by omega) y.parent w9 hS9.its (j : Int) HF.out).mono ?_
      rintro e w10 ⟨rfl, hx10⟩
      have hS10 : (CR w.heap.size (some ⟨b, off, none⟩) n c l) w10 := hS9.below hx10
      have hb10 := bnext hb9 hx10
      have hO10 := OwnS.below hO9 hx10
      clear hO9
      refine hK.out _ _ (Or.inr hS10) ?_
      clear hK K hS9 hb9 hx10
      try simp only [Act.put, List.getElem_toArray, List.getElem_cons_succ, List.getElem_cons_zero, List.setIfInBounds_toArray, List.set_cons_succ, List.set_cons_zero]
      refine wpAnyL_take (i := 5) (f0 := 11) (v := ?_) rfl (by decide +kernel) (by decide +kernel) (by decide +kernel) (by decide +kernel) (by decide +kernel) (fun _ _ _ h => h) (Or.inl ⟨by rfl, ?_⟩) hS10 ?_
      rotate_left
      · intro wS hS; go_simp; (try with_reducible rfl)
      simp only [Act.put, List.getElem_toArray, List.getElem_cons_succ, List.getElem_cons_zero, List.setIfInBounds_toArray, List.set_cons_succ, List.set_cons_zero]
      refine wpAnyL_take (i := 6) (f0 := 11) (v := ?_) rfl (by decide +kernel) (by decide +kernel) (by decide +kernel) (by decide +kernel) (by decide +kernel) (fun _ _ _ h => h) (Or.inl ⟨by rfl, ?_⟩) hS10 ?_
      rotate_left
      · intro wS hS; go_simp; (try with_reducible rfl)
      simp only [Act.put, List.getElem_toArray, List.getElem_cons_succ, List.getElem_cons_zero, List.setIfInBounds_toArray, List.set_cons_succ, List.set_cons_zero]
      refine wpAnyL_take (i := 7) (f0 := 11) (v := ?_) rfl (by decide +kernel) (by decide +kernel) (by decide +kernel) (by decide +kernel) (by decide +kernel) (fun _ _ _ h => h) (Or.inl ⟨by rfl, ?_⟩) hS10 ?_
      rotate_left
      · intro wS hS; obtain ⟨_, p0, p1, p2, p3, p4, p5, p6⟩ := hS.its.cells (List.getElem?_eq_some_iff.1 HZ.out).1 z HZJ.out; go_simp; (try with_reducible rfl)
      simp only [Act.put, List.getElem_toArray, List.getElem_cons_succ, List.getElem_cons_zero, List.setIfInBounds_toArray, List.set_cons_succ, List.set_cons_zero]
      refine wpAnyL_take (i := 8) (f0 := 11) (v := ?_) rfl (by decide +kernel) (by decide +kernel) (by decide +kernel) (by decide +kernel) (by decide +kernel) (fun _ _ _ h => h) (Or.inl ⟨by rfl, ?_⟩) hS10 ?_
      rotate_left
      · intro wS hS; go_simp; (try with_reducible rfl)
      simp only [Act.put, List.getElem_toArray, List.getElem_cons_succ, List.getElem_cons_zero, List.setIfInBounds_toArray, List.set_cons_succ, List.set_cons_zero]
      refine wpAnyL_done (by decide +kernel) ?_ _
      refine NoPanic.normal ?_
      go_wp2
      go_roundw
      case rel => exact ⟨j, q ++ [y.parent], o1, z, by omega, HZ.out, rfl, ⟨HQ.out.1, HQ.out.2⟩, by rw [List.length_append] at hO10; exact hO10, hS10, hb10⟩
      case measure => simp [sliceLen]; omega
end Go.Proofs.YtobhpeockinnjaaGreatDoor
/- Validity as the reference has it equals the walk's, in plain Lean. No program in sight. -/
namespace Go.Proofs.YtobhpeockinnjaaGreatDoor.Dg
open Go
/-- The open divisions before the item behind item k. -/
theorem op_behind {l : List It} {k : Nat} (hk : k < l.length) {vs : List (List ByteArray)} {s : Wk} (h : walkTo l (k + 1) = some (vs, s)) : ∃ o, vs[k]? = some o ∧ s.op = if l[k].kind = 1 then o ++ [l[k].id] else o := by
  obtain ⟨vs0, s0, o, w0, st, rfl⟩ := walk_step hk h
  have hl := walk_len (by omega) w0
  obtain ⟨_, _, _, _, _, _, c6⟩ := stepI_some st
  exact ⟨o, by rw [List.getElem?_append_right (by omega), hl, Nat.sub_self]; rfl, c6⟩
/-- Whether an item stands at a right place, by the reference; f is how far it goes up at most. -/
def placeR (l : List It) (f i : Nat) (p : ByteArray) : Bool :=
  if p = nil8 then true else match i with
    | 0 => false
    | j + 1 => match l[j]? with
      | none => false
      | some x => (decide (x.id = p) || inB (chainR l f x.parent) p) && (match findI l p with | none => false | some y => decide (y.kind = 1))
theorem place_eq {l : List It} {i : Nat} (hi : i ≤ l.length) {vs : List (List ByteArray)} {s : Wk} (h : walkTo l i = some (vs, s)) (f : Nat) (hf : i < f) (p : ByteArray) : placeR l f i p = (kOf s.op p).isSome := by
  unfold placeR kOf
  by_cases hp : p = nil8
  · rw [if_pos hp, if_pos hp]; rfl
  · rw [if_neg hp, if_neg hp]
    cases i with
    | zero =>
      cases h
      simp [inB]
    | succ j =>
      have hj : j < l.length := by omega
      obtain ⟨o, ho, hop⟩ := op_behind hj h
      have hch := chain_eq (by omega) h j (by omega) f (by omega) o ho
      obtain ⟨hst, _⟩ := walk_stack (by omega) h
      simp only [List.getElem?_eq_getElem hj]
      rw [hch]
      have hrev : inB o.reverse p = inB o p := by
        cases hb : inB o p with
        | true => exact (inB_iff _ _).2 (List.mem_reverse.2 ((inB_iff _ _).1 hb))
        | false => exact (inB_no _ _).2 fun hm => (inB_no _ _).1 hb (List.mem_reverse.1 hm)
      rw [hrev]
      -- what is found for a name that is open
      have hfo : ∀ d, d ∈ s.op → ∃ y, findI l d = some y ∧ y.kind = 1 := fun d hd => by
        obtain ⟨t, ht, rfl⟩ := List.mem_iff_getElem.1 hd
        obtain ⟨k, x, c1, c2, c3, c4, _⟩ := hst t s.op[t] (List.getElem?_eq_getElem ht)
        obtain ⟨hkl, c2'⟩ := List.getElem?_eq_some_iff.1 c2
        have := find_at (by omega) h (k := k) (by omega)
        rw [c2', c3] at this
        exact ⟨x, this, c4⟩
      by_cases hm : p ∈ s.op
      · obtain ⟨y, hy, hk⟩ := hfo p hm
        rw [if_pos ((inB_iff _ _).2 hm), hy]
        simp only [hk, decide_true, Bool.and_true, Option.isSome_some]
        rw [hop] at hm
        split at hm
        · rcases List.mem_append.1 hm with h1 | h1
          · rw [(inB_iff _ _).2 h1, Bool.or_true]
          · rw [decide_eq_true (List.mem_singleton.1 h1).symm, Bool.true_or]
        · rw [(inB_iff _ _).2 hm, Bool.or_true]
      · rw [if_neg (by rw [(inB_no _ _).2 hm]; decide)]
        simp only [Option.isSome_none]
        rw [hop] at hm
        have hno : inB o p = false := (inB_no _ _).2 fun h1 => hm (by split <;> first | exact List.mem_append_left _ h1 | exact h1)
        rw [hno, Bool.or_false]
        by_cases hid : l[j].id = p
        · have hk : l[j].kind ≠ 1 := fun e => hm (by rw [if_pos e, hid]; simp)
          have := find_at (by omega) h (k := j) (by omega)
          rw [hid] at this
          rw [this]
          simp [hk]
        · rw [decide_eq_false hid, Bool.false_and]
/-- An item, by the reference. -/
def okR (l : List It) (f i : Nat) (x : It) : Bool :=
  isNameB x.id && (!(inB ((l.take i).map It.id) x.id) && (isNumB x.number && (!(decide (x.kind = 1) && (!(decide (x.north = nil8)) || (!(decide (x.south = nil8)) || x.gone))) && ((decide (x.kind = 1) || decide (x.kind = 2)) && (decide (x.north.size ≤ 400) && (decide (x.south.size ≤ 400) && placeR l f i x.parent))))))
theorem proper_ref (x : It) : properI x = (isNameB x.id && (isNumB x.number && (!(decide (x.kind = 1) && (!(decide (x.north = nil8)) || (!(decide (x.south = nil8)) || x.gone))) && ((decide (x.kind = 1) || decide (x.kind = 2)) && (decide (x.north.size ≤ 400) && decide (x.south.size ≤ 400)))))) := by
  unfold properI
  by_cases h1 : x.kind = 1
  · rw [if_pos h1]
    by_cases h3 : x.north = nil8
    · by_cases h4 : x.south = nil8
      · have z3 : x.north.size ≤ 400 := by rw [h3]; decide
        have z4 : x.south.size ≤ 400 := by rw [h4]; decide
        rw [decide_eq_true h3, decide_eq_true h4, decide_eq_true h1, decide_eq_true z3, decide_eq_true z4]
        cases isNumB x.number <;> cases isNameB x.id <;> cases x.gone <;> rfl
      · rw [decide_eq_true h3, decide_eq_false h4, decide_eq_true h1]
        cases isNumB x.number <;> cases isNameB x.id <;> simp
    · rw [decide_eq_false h3, decide_eq_true h1]
      cases isNumB x.number <;> cases isNameB x.id <;> simp
  · rw [if_neg h1, decide_eq_false h1]
    by_cases h2 : x.kind = 2
    · rw [if_pos h2, decide_eq_true h2]
      cases isNumB x.number <;> cases isNameB x.id <;> simp
    · rw [if_neg h2, decide_eq_false h2]
      simp
theorem step_ref {l : List It} {i : Nat} (hi : i < l.length) {vs : List (List ByteArray)} {s : Wk} (h : walkTo l i = some (vs, s)) (f : Nat) (hf : i < f) : (stepI s l[i]).isSome = okR l f i l[i] := by
  obtain ⟨h1, _⟩ := walk_seen (by omega) h
  have hseen : inB s.seen l[i].id = inB ((l.take i).map It.id) l[i].id := by
    rw [h1]
    cases hb : inB ((l.take i).map It.id) l[i].id with
    | true => exact (inB_iff _ _).2 (List.mem_reverse.2 ((inB_iff _ _).1 hb))
    | false => exact (inB_no _ _).2 fun hm => (inB_no _ _).1 hb (List.mem_reverse.1 hm)
  have hst : (stepI s l[i]).isSome = (properI l[i] && (!(inB s.seen l[i].id) && (kOf s.op l[i].parent).isSome)) := by
    unfold stepI
    cases hp : properI l[i] with
    | false => rw [if_neg (fun hh => by cases hh.1)]; rfl
    | true =>
      cases hn : inB s.seen l[i].id with
      | true => rw [if_neg (fun hh => by cases hh.2)]; rfl
      | false =>
        rw [if_pos ⟨rfl, rfl⟩]
        cases kOf s.op l[i].parent <;> rfl
  rw [hst, hseen, ← place_eq (by omega) h f hf, proper_ref]
  unfold okR
  cases isNameB l[i].id <;> cases inB ((l.take i).map It.id) l[i].id <;> cases isNumB l[i].number <;> simp [Bool.and_assoc]
/-- Validity, by the reference: all items, in order. -/
def validR (l : List It) : Bool := decide (l.length ≤ 2000) && (List.range l.length).all fun i => match l[i]? with | none => true | some x => okR l (l.length + 1) i x
theorem walk_ref (l : List It) (f : Nat) (hf : l.length < f) : ∀ k ≤ l.length, ((walkTo l k).isSome = true ↔ ∀ i (_ : i < k) (h2 : i < l.length), okR l f i l[i] = true)
  | 0, _ => ⟨fun _ i hi => by omega, fun _ => rfl⟩
  | k + 1, hk => by
    have ih := walk_ref l f hf k (by omega)
    rw [walkTo_succ _ _ (by omega)]
    constructor
    · intro h i hi h2
      cases hw : walkTo l k with
      | none => rw [hw] at h; cases h
      | some p =>
        obtain ⟨vs, s⟩ := p
        rw [hw] at h ih
        by_cases e : i = k
        · subst e
          rw [← step_ref h2 hw f (by omega)]
          simp only at h
          cases hs : stepI s l[i] with
          | none => rw [hs] at h; cases h
          | some q => rfl
        · exact ih.1 rfl i (by omega) h2
    · intro h
      have h0 := ih.2 fun i hi h2 => h i (by omega) h2
      cases hw : walkTo l k with
      | none => rw [hw] at h0; cases h0
      | some p =>
        obtain ⟨vs, s⟩ := p
        have h1 := h k (by omega) (by omega)
        rw [← step_ref (by omega) hw f (by omega)] at h1
        simp only
        cases hs : stepI s l[k] with
        | none => rw [hs] at h1; cases h1
        | some q => obtain ⟨o, s'⟩ := q; rfl
theorem valid_ref (l : List It) : validR l = validC l := by
  have hw := walk_ref l (l.length + 1) (by omega) l.length (Nat.le_refl _)
  unfold validR validC
  rw [Bool.and_comm]
  congr 1
  rw [Bool.eq_iff_iff, hw, List.all_eq_true]
  constructor
  · intro h i hi h2
    have := h i (List.mem_range.2 h2)
    rw [List.getElem?_eq_getElem h2] at this
    exact this
  · intro h i hi
    have h2 := List.mem_range.1 hi
    rw [List.getElem?_eq_getElem h2]
    exact h i h2 h2
end Go.Proofs.YtobhpeockinnjaaGreatDoor.Dg
/- place of the reference. No conditions but those that each theorem states. -/
namespace Go.Proofs.YtobhpeockinnjaaGreatDoor
open Go Go.RowKit Go.Sort Go.Maps
theorem op_le {l : List Dg.It} {N : Nat} (hN : N ≤ l.length) {vs : List (List ByteArray)} {s : Dg.Wk} (hW : Dg.walkTo l N = some (vs, s)) {j : Nat} (hj : j < N) {o : List ByteArray} (ho : vs[j]? = some o) : o.length ≤ j := by
  obtain ⟨s1, h1⟩ := Dg.walk_le hN hW (j + 1) (by omega)
  obtain ⟨vs0, s0, o0, w0, st0, e0⟩ := Dg.walk_step (l := l) (k := j) (by omega) h1
  have l0 := Dg.walk_len (by omega) w0
  have a0 : (vs.take (j + 1))[j]? = some o0 := by rw [e0, List.getElem?_append_right (by omega), l0]; simp
  rw [List.getElem?_take_of_lt (by omega), ho] at a0
  injection a0 with a0
  rw [a0]
  rw [e0] at h1
  exact op_short (by omega) h1
set_option maxRecDepth 100000 in
set_option maxHeartbeats 8000000 in
theorem place_of (l : List Dg.It) (A : Option Addr) (n c : Nat) (hl : l.length = n) (hn : n ≤ 1048576) (w : World) (hI : Its w w.heap.size A l) (i : Nat) (hi : i < l.length) (vs : List (List ByteArray)) (s : Dg.Wk) (hW : Dg.walkTo l i = some (vs, s)) (R : Bool) (hR : (Dg.kOf s.op l[i].parent).isSome = R) :
    Calls Tryz.prog 85 #[.agg #[.slice A n c], .int .i64 (i : Int)] w fun e w' => e = .returned (.bool R) ∧ Below w.heap.size w w' := by
  have hx1 := Below.news (Below.refl w.heap.size w) (.cells #[.slice A n c] 24)
  have hS1 : CR w.heap.size A n c l (w.alloc (.cells #[.slice A n c] 24)) := ⟨heap_alloc_new w _, hI.keep hx1⟩
  rw [← Dg.place_eq (by omega) hW (l.length + 1) (by omega)] at hR
  obtain ⟨y, hy⟩ : ∃ y, l[i] = y := ⟨_, rfl⟩
  rw [hy] at hR
  have HL := hide hl; have HW := hide hW; have HR := hide hR; have HY := hide hy
  clear hI hW hR hy hl
  have hmx : Tryz.prog.follows .mixedOrders = true := by kernel_rfl
  go_enter Tryz.func85, Tryz.ntmps85
  have hin : (i : Int) < (n : Int) := by have := HL.out; omega
  have hi0 : (0 : Int) ≤ (i : Int) := by omega
  obtain ⟨b, off, rfl⟩ := hS1.its.some hi
  have hc := iCells0 hS1.row
  obtain ⟨_, p0, p1, p2, p3, p4, p5, p6⟩ := hS1.its.cells hi y HY.out
  clear p0 p1 p3 p4 p5 p6
  have hpe : y.parent.toList.isEmpty = decide (y.parent = Dg.nil8) := (emp_iff _).symm
  by_cases hp : y.parent = Dg.nil8
  · rw [decide_eq_true hp] at hpe
    have E9 := hide (show true = R by rw [← HR.out]; unfold Dg.placeR; rw [if_pos hp])
    clear hp
    go_wp2
    go_ret
    exact ⟨ret_bool E9.out, hx1⟩
  · rw [decide_eq_false hp] at hpe
    by_cases h0 : i = 0
    · have h0' : ((i : Int) == 0) = true := beq_iff_eq.2 (by omega)
      have E9 := hide (show false = R by rw [← HR.out]; unfold Dg.placeR; rw [if_neg hp, h0])
      clear hp h0
      go_wp2
      go_ret
      exact ⟨ret_bool E9.out, hx1⟩
    · obtain ⟨j, hj⟩ : ∃ j, i = j + 1 := ⟨i - 1, by omega⟩
      have hi1 : ((i : Int) == 0) = false := beq_eq_false_iff_ne.2 (by omega)
      have hij : (i : Int) - 1 = (j : Int) := by omega
      have hwj : IntKind.i64.wrap (j : Int) = (j : Int) := IntWalk.i64_in _ (by omega)
      have hj0 : (0 : Int) ≤ (j : Int) := by omega
      have hjn : (j : Int) < (n : Int) := by have := HL.out; omega
      have hjl : j < l.length := by omega
      obtain ⟨x, hx⟩ : ∃ x, l[j] = x := ⟨_, rfl⟩
      obtain ⟨_, p0, p1, p3, p4, p5, p6, p7⟩ := hS1.its.cells hjl x hx
      have hvl := Dg.walk_len (by omega) HW.out
      obtain ⟨o, ho⟩ : ∃ o, vs[j]? = some o := ⟨_, List.getElem?_eq_getElem (by omega)⟩
      have hch := Dg.chain_eq (by omega) HW.out j (by omega) (l.length + 1) (by omega) o ho
      have hR2 : ((decide (x.id = y.parent) || Dg.inB o.reverse y.parent) && (match Dg.findI l y.parent with | none => false | some z => decide (z.kind = 1))) = R := by
        rw [← HR.out]
        unfold Dg.placeR
        rw [if_neg hp, hj]
        simp only [List.getElem?_eq_getElem hjl, hx]
        rw [hx] at hch
        rw [hch] <;> (cases Dg.findI l y.parent <;> rfl)
      have hat : ∀ (t : Nat) (ht : t < i) (htl : t < l.length), l[t].id = y.parent → findX l y.parent = (t : Int) ∧ Dg.findI l y.parent = some l[t] := fun t ht htl e => by
        rw [← e]
        exact ⟨findX_walk (by omega) HW.out ht, Dg.find_at (by omega) HW.out ht⟩
      have hom : ∀ d ∈ o, ∃ (t : Nat) (ht : t < i) (htl : t < l.length), l[t].id = d := fun d hd => by
        obtain ⟨o', ho', hmem, _⟩ := Dg.visit_at (by omega) HW.out (k := j) (by omega)
        rw [ho] at ho'
        injection ho' with ho'
        rw [ho'] at hd
        obtain ⟨z, hz, e⟩ := List.mem_map.1 (hmem d hd)
        obtain ⟨t, ht, rfl⟩ := List.mem_take_iff_getElem.1 hz
        exact ⟨t, by omega, by omega, e⟩
      have hol := op_le (by omega) HW.out (j := j) (by omega) ho
      have HO := hide ho; have HX := hide hx; have HR2 := hide hR2; have HAT := hide hat; have HOM := hide hom
      have HJ := hide hj
      clear hp h0 hvl hch hR2 hat hom hx ho HR hj
      go_upto_region 7 with (fail)
      have hx2 := Below.news (Below.refl (w.alloc (.cells #[.slice (some ⟨b, off, none⟩) n c] 24)).heap.size (w.alloc (.cells #[.slice (some ⟨b, off, none⟩) n c] 24))) (.cells #[.int .i64 x.kind, .string x.id, .string x.parent, .string x.number, .string x.north, .string x.south, .bool x.gone] 26)
      have hrx := heap_alloc_new (w.alloc (.cells #[.slice (some ⟨b, off, none⟩) n c] 24)) (.cells #[.int .i64 x.kind, .string x.id, .string x.parent, .string x.number, .string x.north, .string x.south, .bool x.gone] 26)
      have hz1 : (w.alloc (.cells #[.slice (some ⟨b, off, none⟩) n c] 24)).heap.size = w.heap.size + 1 := by simp
      rw [hz1] at hrx
      have hS2 := hS1.below hx2
      have hb2 := bnext hx1 hx2
      clear hS1 hx1 hx2 hz1 hc p0 p1 p2 p3 p4 p5 p6 p7
      generalize (w.alloc (.cells #[.slice (some ⟨b, off, none⟩) n c] 24)).alloc (.cells #[.int .i64 x.kind, .string x.id, .string x.parent, .string x.number, .string x.north, .string x.south, .bool x.gone] 26) = w2 at *
      have hc := iCells0 hS2.row
      obtain ⟨_, q1, _⟩ := iCells hrx
      by_cases he : x.id = y.parent
      · have hbe := bs_yes he
        obtain ⟨hfx, hfi⟩ := HAT.out j (by have := HJ.out; omega) hjl (by rw [HX.out]; exact he)
        rw [HX.out] at hfi
        have E9 := hide (show decide (x.kind = 1) = R by rw [← HR2.out, decide_eq_true he, hfi]; rfl)
        have HF := hide hfx
        clear he hfx hfi
        go_upto_region 9 with (fail)
        clear q1 hrx
        clear hc
        try clear hc1
        try clear hc2
        refine wp_region_noPanic ?_
        refine wp_region_L (CR w.heap.size (some ⟨b, off, none⟩) n c l) 10 hmx ?_
        have hdr := (Below.refl w2.heap.size w2).drew
        have hS21 : (CR w.heap.size (some ⟨b, off, none⟩) n c l) w2.drew := hS2.below hdr
        have hb21 := bnext hb2 hdr
        clear hdr hS2 hb2
        generalize w2.drew = w21 at *
        refine wpAnyL_take (i := 0) (f0 := 12) (v := ?_) rfl (by decide +kernel) (by decide +kernel) (by decide +kernel) (by decide +kernel) (by decide +kernel) (fun _ _ _ h => h) (Or.inl ⟨by rfl, ?_⟩) hS21 ?_
        rotate_left
        · intro wS hS; go_simp; (try with_reducible rfl)
        simp only [Act.put, List.getElem_toArray, List.getElem_cons_zero, List.setIfInBounds_toArray, List.set_cons_succ, List.set_cons_zero]
        refine wpAnyL_take (i := 1) (f0 := 12) (v := ?_) rfl (by decide +kernel) (by decide +kernel) (by decide +kernel) (by decide +kernel) (by decide +kernel) (fun _ _ _ h => h) (Or.inl ⟨by rfl, ?_⟩) hS21 ?_
        rotate_left
        · intro wS hS; have c9 := iCells0 hS.row; go_simp; (try with_reducible rfl)
        simp only [Act.put, List.getElem_toArray, List.getElem_cons_succ, List.getElem_cons_zero, List.setIfInBounds_toArray, List.set_cons_succ, List.set_cons_zero]
        refine wpAnyL_take (i := 2) (f0 := 12) (v := ?_) rfl (by decide +kernel) (by decide +kernel) (by decide +kernel) (by decide +kernel) (by decide +kernel) (fun _ _ _ h => h) (Or.inl ⟨by rfl, ?_⟩) hS21 ?_
        rotate_left
        · intro wS hS; have c9 := iCells0 hS.row; go_simp; (try with_reducible rfl)
        simp only [Act.put, List.getElem_toArray, List.getElem_cons_succ, List.getElem_cons_zero, List.setIfInBounds_toArray, List.set_cons_succ, List.set_cons_zero]
        refine wpAnyL_take (i := 3) (f0 := 12) (v := ?_) rfl (by decide +kernel) (by decide +kernel) (by decide +kernel) (by decide +kernel) (by decide +kernel) (fun _ _ _ h => h) (Or.inl ⟨by rfl, ?_⟩) hS21 ?_
        rotate_left
        · intro wS hS; go_simp; (try with_reducible rfl)
        simp only [Act.put, List.getElem_toArray, List.getElem_cons_succ, List.getElem_cons_zero, List.setIfInBounds_toArray, List.set_cons_succ, List.set_cons_zero]
        refine wpAnyL_one (i := 4) (by decide +kernel) (by rfl) (fun K hK => ?_)
        rw [if_pos (by rfl)]
        go_simp
        refine (rfind_of l (some ⟨b, off, none⟩) n c HL.out (by omega) y.parent w21 hS21.its (j : Int) HF.out).mono ?_
        rintro e w22 ⟨rfl, hx22⟩
        have hS22 : (CR w.heap.size (some ⟨b, off, none⟩) n c l) w22 := hS21.below hx22
        have hb22 := bnext hb21 hx22
        refine hK.out _ _ (Or.inr hS22) ?_
        clear hK K hS21 hb21 hx22
        try simp only [Act.put, List.getElem_toArray, List.getElem_cons_succ, List.getElem_cons_zero, List.setIfInBounds_toArray, List.set_cons_succ, List.set_cons_zero]
        refine wpAnyL_take (i := 5) (f0 := 12) (v := ?_) rfl (by decide +kernel) (by decide +kernel) (by decide +kernel) (by decide +kernel) (by decide +kernel) (fun _ _ _ h => h) (Or.inl ⟨by rfl, ?_⟩) hS22 ?_
        rotate_left
        · intro wS hS; go_simp; (try with_reducible rfl)
        simp only [Act.put, List.getElem_toArray, List.getElem_cons_succ, List.getElem_cons_zero, List.setIfInBounds_toArray, List.set_cons_succ, List.set_cons_zero]
        refine wpAnyL_take (i := 6) (f0 := 12) (v := ?_) rfl (by decide +kernel) (by decide +kernel) (by decide +kernel) (by decide +kernel) (by decide +kernel) (fun _ _ _ h => h) (Or.inl ⟨by rfl, ?_⟩) hS22 ?_
        rotate_left
        · intro wS hS; go_simp; (try with_reducible rfl)
        simp only [Act.put, List.getElem_toArray, List.getElem_cons_succ, List.getElem_cons_zero, List.setIfInBounds_toArray, List.set_cons_succ, List.set_cons_zero]
        refine wpAnyL_take (i := 7) (f0 := 12) (v := ?_) rfl (by decide +kernel) (by decide +kernel) (by decide +kernel) (by decide +kernel) (by decide +kernel) (fun _ _ _ h => h) (Or.inl ⟨by rfl, ?_⟩) hS22 ?_
        rotate_left
        · intro wS hS; obtain ⟨_, p0, p1, p2, p3, p4, p5, p6⟩ := hS.its.cells hjl x HX.out; go_simp; (try with_reducible rfl)
        simp only [Act.put, List.getElem_toArray, List.getElem_cons_succ, List.getElem_cons_zero, List.setIfInBounds_toArray, List.set_cons_succ, List.set_cons_zero]
        refine wpAnyL_take (i := 8) (f0 := 12) (v := ?_) rfl (by decide +kernel) (by decide +kernel) (by decide +kernel) (by decide +kernel) (by decide +kernel) (fun _ _ _ h => h) (Or.inl ⟨by rfl, ?_⟩) hS22 ?_
        rotate_left
        · intro wS hS; go_simp; (try with_reducible rfl)
        simp only [Act.put, List.getElem_toArray, List.getElem_cons_succ, List.getElem_cons_zero, List.setIfInBounds_toArray, List.set_cons_succ, List.set_cons_zero]
        refine wpAnyL_take (i := 9) (f0 := 12) (v := ?_) rfl (by decide +kernel) (by decide +kernel) (by decide +kernel) (by decide +kernel) (by decide +kernel) (fun _ _ _ h => h) (Or.inl ⟨by rfl, ?_⟩) hS22 ?_
        rotate_left
        · intro wS hS; go_simp; (try with_reducible rfl)
        simp only [Act.put, List.getElem_toArray, List.getElem_cons_succ, List.getElem_cons_zero, List.setIfInBounds_toArray, List.set_cons_succ, List.set_cons_zero]
        refine wpAnyL_done (by decide +kernel) ?_ _
        refine NoPanic.normal ?_
        have E8 := hide (show (x.kind == 1) = R by rw [← E9.out]; exact Bool.eq_iff_iff.2 (by rw [beq_iff_eq, decide_eq_true_eq]))
        go_wp2
        go_ret
        exact ⟨ret_bool E8.out, hb22⟩
      · have hbe := bs_no he
        go_wp2_with fail
        refine (rchainC_of l (some ⟨b, off, none⟩) n c HL.out hn w2 hS2.its i (by omega) vs s HW.out j (by have := HJ.out; omega) o HO.out o.length rfl (by have := HL.out; omega)).mono ?_
        rintro e w3 ⟨⟨A3, c3, rfl, hs3⟩, hx3⟩
        have hS3 := hS2.below hx3
        have hb3 := bnext hb2 hx3
        clear hS2 hb2 hx3 hc q1 hrx
        have hc := iCells0 hS3.row
        go_wp2_with fail
        obtain ⟨U, hU⟩ : ∃ U, Dg.inB o.reverse y.parent = U := ⟨_, rfl⟩
        refine (rin_of o.reverse A3 o.length c3 (by rw [List.length_reverse]) (by have := HL.out; omega) y.parent w3 hs3 U hU).mono ?_
        rintro e w4 ⟨rfl, rfl⟩
        clear hs3
        cases U with
        | false =>
          have E9 := hide (show false = R by rw [← HR2.out, decide_eq_false he, hU]; rfl)
          clear he hU
          go_wp2
          go_ret
          exact ⟨ret_bool E9.out, hb3⟩
        | true =>
          obtain ⟨t, ht, htl, hti⟩ := HOM.out y.parent (List.mem_reverse.1 ((Dg.inB_iff _ _).1 hU))
          obtain ⟨hfx, hfi⟩ := HAT.out t ht htl hti
          obtain ⟨z, hz⟩ : ∃ z, l[t] = z := ⟨_, rfl⟩
          rw [hz] at hfi
          have E9 := hide (show decide (z.kind = 1) = R by rw [← HR2.out, hU, Bool.or_true, hfi]; rfl)
          have HF := hide hfx; have HZ := hide hz
          have ht0 : (0 : Int) ≤ (t : Int) := by omega
          have htn : (t : Int) < (n : Int) := by have := HL.out; omega
          clear he hfx hfi hU hti hz
          go_upto_region 9 with (fail)
          clear hc
          try clear hc1
          try clear hc2
          refine wp_region_noPanic ?_
          refine wp_region_L (CR w.heap.size (some ⟨b, off, none⟩) n c l) 10 hmx ?_
          have hdr := (Below.refl w4.heap.size w4).drew
          have hS21 : (CR w.heap.size (some ⟨b, off, none⟩) n c l) w4.drew := hS3.below hdr
          have hb21 := bnext hb3 hdr
          clear hdr hS3 hb3
          generalize w4.drew = w21 at *
          refine wpAnyL_take (i := 0) (f0 := 12) (v := ?_) rfl (by decide +kernel) (by decide +kernel) (by decide +kernel) (by decide +kernel) (by decide +kernel) (fun _ _ _ h => h) (Or.inl ⟨by rfl, ?_⟩) hS21 ?_
          rotate_left
          · intro wS hS; go_simp; (try with_reducible rfl)
          simp only [Act.put, List.getElem_toArray, List.getElem_cons_zero, List.setIfInBounds_toArray, List.set_cons_succ, List.set_cons_zero]
          refine wpAnyL_take (i := 1) (f0 := 12) (v := ?_) rfl (by decide +kernel) (by decide +kernel) (by decide +kernel) (by decide +kernel) (by decide +kernel) (fun _ _ _ h => h) (Or.inl ⟨by rfl, ?_⟩) hS21 ?_
          rotate_left
          · intro wS hS; have c9 := iCells0 hS.row; go_simp; (try with_reducible rfl)
          simp only [Act.put, List.getElem_toArray, List.getElem_cons_succ, List.getElem_cons_zero, List.setIfInBounds_toArray, List.set_cons_succ, List.set_cons_zero]
          refine wpAnyL_take (i := 2) (f0 := 12) (v := ?_) rfl (by decide +kernel) (by decide +kernel) (by decide +kernel) (by decide +kernel) (by decide +kernel) (fun _ _ _ h => h) (Or.inl ⟨by rfl, ?_⟩) hS21 ?_
          rotate_left
          · intro wS hS; have c9 := iCells0 hS.row; go_simp; (try with_reducible rfl)
          simp only [Act.put, List.getElem_toArray, List.getElem_cons_succ, List.getElem_cons_zero, List.setIfInBounds_toArray, List.set_cons_succ, List.set_cons_zero]
          refine wpAnyL_take (i := 3) (f0 := 12) (v := ?_) rfl (by decide +kernel) (by decide +kernel) (by decide +kernel) (by decide +kernel) (by decide +kernel) (fun _ _ _ h => h) (Or.inl ⟨by rfl, ?_⟩) hS21 ?_
          rotate_left
          · intro wS hS; go_simp; (try with_reducible rfl)
          simp only [Act.put, List.getElem_toArray, List.getElem_cons_succ, List.getElem_cons_zero, List.setIfInBounds_toArray, List.set_cons_succ, List.set_cons_zero]
          refine wpAnyL_one (i := 4) (by decide +kernel) (by rfl) (fun K hK => ?_)
          rw [if_pos (by rfl)]
          go_simp
          refine (rfind_of l (some ⟨b, off, none⟩) n c HL.out (by omega) y.parent w21 hS21.its (t : Int) HF.out).mono ?_
          rintro e w22 ⟨rfl, hx22⟩
          have hS22 : (CR w.heap.size (some ⟨b, off, none⟩) n c l) w22 := hS21.below hx22
          have hb22 := bnext hb21 hx22
          refine hK.out _ _ (Or.inr hS22) ?_
          clear hK K hS21 hb21 hx22
          try simp only [Act.put, List.getElem_toArray, List.getElem_cons_succ, List.getElem_cons_zero, List.setIfInBounds_toArray, List.set_cons_succ, List.set_cons_zero]
          refine wpAnyL_take (i := 5) (f0 := 12) (v := ?_) rfl (by decide +kernel) (by decide +kernel) (by decide +kernel) (by decide +kernel) (by decide +kernel) (fun _ _ _ h => h) (Or.inl ⟨by rfl, ?_⟩) hS22 ?_
          rotate_left
          · intro wS hS; go_simp; (try with_reducible rfl)
          simp only [Act.put, List.getElem_toArray, List.getElem_cons_succ, List.getElem_cons_zero, List.setIfInBounds_toArray, List.set_cons_succ, List.set_cons_zero]
          refine wpAnyL_take (i := 6) (f0 := 12) (v := ?_) rfl (by decide +kernel) (by decide +kernel) (by decide +kernel) (by decide +kernel) (by decide +kernel) (fun _ _ _ h => h) (Or.inl ⟨by rfl, ?_⟩) hS22 ?_
          rotate_left
          · intro wS hS; go_simp; (try with_reducible rfl)
          simp only [Act.put, List.getElem_toArray, List.getElem_cons_succ, List.getElem_cons_zero, List.setIfInBounds_toArray, List.set_cons_succ, List.set_cons_zero]
          refine wpAnyL_take (i := 7) (f0 := 12) (v := ?_) rfl (by decide +kernel) (by decide +kernel) (by decide +kernel) (by decide +kernel) (by decide +kernel) (fun _ _ _ h => h) (Or.inl ⟨by rfl, ?_⟩) hS22 ?_
          rotate_left
          · intro wS hS; obtain ⟨_, p0, p1, p2, p3, p4, p5, p6⟩ := hS.its.cells htl z HZ.out; go_simp; (try with_reducible rfl)
          simp only [Act.put, List.getElem_toArray, List.getElem_cons_succ, List.getElem_cons_zero, List.setIfInBounds_toArray, List.set_cons_succ, List.set_cons_zero]
          refine wpAnyL_take (i := 8) (f0 := 12) (v := ?_) rfl (by decide +kernel) (by decide +kernel) (by decide +kernel) (by decide +kernel) (by decide +kernel) (fun _ _ _ h => h) (Or.inl ⟨by rfl, ?_⟩) hS22 ?_
          rotate_left
          · intro wS hS; go_simp; (try with_reducible rfl)
          simp only [Act.put, List.getElem_toArray, List.getElem_cons_succ, List.getElem_cons_zero, List.setIfInBounds_toArray, List.set_cons_succ, List.set_cons_zero]
          refine wpAnyL_take (i := 9) (f0 := 12) (v := ?_) rfl (by decide +kernel) (by decide +kernel) (by decide +kernel) (by decide +kernel) (by decide +kernel) (fun _ _ _ h => h) (Or.inl ⟨by rfl, ?_⟩) hS22 ?_
          rotate_left
          · intro wS hS; go_simp; (try with_reducible rfl)
          simp only [Act.put, List.getElem_toArray, List.getElem_cons_succ, List.getElem_cons_zero, List.setIfInBounds_toArray, List.set_cons_succ, List.set_cons_zero]
          refine wpAnyL_done (by decide +kernel) ?_ _
          refine NoPanic.normal ?_
          have E8 := hide (show (z.kind == 1) = R by rw [← E9.out]; exact Bool.eq_iff_iff.2 (by rw [beq_iff_eq, decide_eq_true_eq]))
          go_wp2
          go_ret
          exact ⟨ret_bool E8.out, hb22⟩
end Go.Proofs.YtobhpeockinnjaaGreatDoor
/- Names and numbers by the reference. No conditions but those that each theorem states. -/
namespace Go.Proofs.YtobhpeockinnjaaGreatDoor
open Go Go.RowKit Go.Sort Go.Maps
def wordB (c : UInt8) : Bool := Dg.letterB c || Dg.digitB c
theorem nameL_eq (l : List UInt8) : Dg.nameL l = (l.all wordB && match l with | [] => false | c :: _ => Dg.letterB c) := by
  cases l with
  | nil => rfl
  | cons c r =>
    show (Dg.letterB c && r.all wordB) = ((wordB c && r.all wordB) && Dg.letterB c)
    unfold wordB
    cases Dg.letterB c <;> simp
theorem letter_of (c : UInt8) (w : World) :
    Calls Tryz.prog 119 #[.int .u8 (c.toNat : Int)] w fun e w' => e = .returned (.bool (Dg.letterB c)) ∧ w' = w := by
  go_enter Tryz.func119, Tryz.ntmps119
  rcases byte_cls c with ⟨b0, b1, hl⟩ | ⟨b0, b1, hl⟩ | ⟨b0, hl, hd⟩ | ⟨b0, b1, hl, hd⟩ | ⟨b0, hl, hd⟩ | ⟨b0, b1, hl, hd⟩ | ⟨b0, b1, b2, hl, hd⟩ | ⟨b0, hl, hd⟩
  · rw [hl]
    have q0 : 97 ≤ (c.toNat : Int) := by omega
    have q1 : (c.toNat : Int) ≤ 122 := by omega
    have q2 : 65 ≤ (c.toNat : Int) := by omega
    have q3 : ¬ (c.toNat : Int) ≤ 90 := by omega
    clear b0 b1 hl
    go_wp2
    go_ret
    exact ⟨rfl, rfl⟩
  · rw [hl]
    have q0 : ¬ 97 ≤ (c.toNat : Int) := by omega
    have q1 : (c.toNat : Int) ≤ 122 := by omega
    have q2 : 65 ≤ (c.toNat : Int) := by omega
    have q3 : (c.toNat : Int) ≤ 90 := by omega
    clear b0 b1 hl
    go_wp2
    go_ret
    exact ⟨rfl, rfl⟩
  · rw [hl]
    have q0 : ¬ 97 ≤ (c.toNat : Int) := by omega
    have q1 : (c.toNat : Int) ≤ 122 := by omega
    have q2 : 65 ≤ (c.toNat : Int) := by omega
    have q3 : ¬ (c.toNat : Int) ≤ 90 := by omega
    clear b0 hl hd
    go_wp2
    go_ret
    exact ⟨rfl, rfl⟩
  · rw [hl]
    have q0 : ¬ 97 ≤ (c.toNat : Int) := by omega
    have q1 : (c.toNat : Int) ≤ 122 := by omega
    have q2 : ¬ 65 ≤ (c.toNat : Int) := by omega
    have q3 : (c.toNat : Int) ≤ 90 := by omega
    clear b0 b1 hl hd
    go_wp2
    go_ret
    exact ⟨rfl, rfl⟩
  · rw [hl]
    have q0 : ¬ 97 ≤ (c.toNat : Int) := by omega
    have q1 : (c.toNat : Int) ≤ 122 := by omega
    have q2 : ¬ 65 ≤ (c.toNat : Int) := by omega
    have q3 : (c.toNat : Int) ≤ 90 := by omega
    clear b0 hl hd
    go_wp2
    go_ret
    exact ⟨rfl, rfl⟩
  · rw [hl]
    have q0 : ¬ 97 ≤ (c.toNat : Int) := by omega
    have q1 : (c.toNat : Int) ≤ 122 := by omega
    have q2 : ¬ 65 ≤ (c.toNat : Int) := by omega
    have q3 : (c.toNat : Int) ≤ 90 := by omega
    clear b0 b1 hl hd
    go_wp2
    go_ret
    exact ⟨rfl, rfl⟩
  · rw [hl]
    have q0 : ¬ 97 ≤ (c.toNat : Int) := by omega
    have q1 : (c.toNat : Int) ≤ 122 := by omega
    have q2 : 65 ≤ (c.toNat : Int) := by omega
    have q3 : ¬ (c.toNat : Int) ≤ 90 := by omega
    clear b0 b1 b2 hl hd
    go_wp2
    go_ret
    exact ⟨rfl, rfl⟩
  · rw [hl]
    have q0 : 97 ≤ (c.toNat : Int) := by omega
    have q1 : ¬ (c.toNat : Int) ≤ 122 := by omega
    have q2 : 65 ≤ (c.toNat : Int) := by omega
    have q3 : ¬ (c.toNat : Int) ≤ 90 := by omega
    clear b0 hl hd
    go_wp2
    go_ret
    exact ⟨rfl, rfl⟩
theorem digit5_of (c : UInt8) (w : World) :
    Calls Tryz.prog 155 #[.int .u8 (c.toNat : Int)] w fun e w' => e = .returned (.bool (decide (48 ≤ c.toNat ∧ c.toNat ≤ 57))) ∧ w' = w := by
  go_enter Tryz.func155, Tryz.ntmps155
  rcases byte_cls c with ⟨b0, b1, hl⟩ | ⟨b0, b1, hl⟩ | ⟨b0, hl, hd⟩ | ⟨b0, b1, hl, hd⟩ | ⟨b0, hl, hd⟩ | ⟨b0, b1, hl, hd⟩ | ⟨b0, b1, b2, hl, hd⟩ | ⟨b0, hl, hd⟩
  · rw [show decide (48 ≤ c.toNat ∧ c.toNat ≤ 57) = false from decide_eq_false (by omega)]
    have q4 : 48 ≤ (c.toNat : Int) := by omega
    have q5 : ¬ (c.toNat : Int) ≤ 57 := by omega
    clear b0 b1 hl
    go_wp2
    go_ret
    exact ⟨rfl, rfl⟩
  · rw [show decide (48 ≤ c.toNat ∧ c.toNat ≤ 57) = false from decide_eq_false (by omega)]
    have q4 : 48 ≤ (c.toNat : Int) := by omega
    have q5 : ¬ (c.toNat : Int) ≤ 57 := by omega
    clear b0 b1 hl
    go_wp2
    go_ret
    exact ⟨rfl, rfl⟩
  · rw [show decide (48 ≤ c.toNat ∧ c.toNat ≤ 57) = false from decide_eq_false (by omega)]
    have q4 : 48 ≤ (c.toNat : Int) := by omega
    have q5 : ¬ (c.toNat : Int) ≤ 57 := by omega
    clear b0 hl hd
    go_wp2
    go_ret
    exact ⟨rfl, rfl⟩
  · rw [show decide (48 ≤ c.toNat ∧ c.toNat ≤ 57) = true from decide_eq_true (by omega)]
    have q4 : 48 ≤ (c.toNat : Int) := by omega
    have q5 : (c.toNat : Int) ≤ 57 := by omega
    clear b0 b1 hl hd
    go_wp2
    go_ret
    exact ⟨rfl, rfl⟩
  · rw [show decide (48 ≤ c.toNat ∧ c.toNat ≤ 57) = false from decide_eq_false (by omega)]
    have q4 : ¬ 48 ≤ (c.toNat : Int) := by omega
    have q5 : (c.toNat : Int) ≤ 57 := by omega
    clear b0 hl hd
    go_wp2
    go_ret
    exact ⟨rfl, rfl⟩
  · rw [show decide (48 ≤ c.toNat ∧ c.toNat ≤ 57) = false from decide_eq_false (by omega)]
    have q4 : 48 ≤ (c.toNat : Int) := by omega
    have q5 : ¬ (c.toNat : Int) ≤ 57 := by omega
    clear b0 b1 hl hd
    go_wp2
    go_ret
    exact ⟨rfl, rfl⟩
  · rw [show decide (48 ≤ c.toNat ∧ c.toNat ≤ 57) = false from decide_eq_false (by omega)]
    have q4 : 48 ≤ (c.toNat : Int) := by omega
    have q5 : ¬ (c.toNat : Int) ≤ 57 := by omega
    clear b0 b1 b2 hl hd
    go_wp2
    go_ret
    exact ⟨rfl, rfl⟩
  · rw [show decide (48 ≤ c.toNat ∧ c.toNat ≤ 57) = false from decide_eq_false (by omega)]
    have q4 : 48 ≤ (c.toNat : Int) := by omega
    have q5 : ¬ (c.toNat : Int) ≤ 57 := by omega
    clear b0 hl hd
    go_wp2
    go_ret
    exact ⟨rfl, rfl⟩
theorem word5_of (c : UInt8) (w : World) :
    Calls Tryz.prog 118 #[.int .u8 (c.toNat : Int)] w fun e w' => e = .returned (.bool (wordB c)) ∧ w' = w := by
  have HL := letter_of c w
  have HD := digit5_of c w
  rcases byte_cls c with ⟨b0, b1, hl⟩ | ⟨b0, b1, hl⟩ | ⟨b0, hl, hd⟩ | ⟨b0, b1, hl, hd⟩ | ⟨b0, hl, hd⟩ | ⟨b0, b1, hl, hd⟩ | ⟨b0, b1, b2, hl, hd⟩ | ⟨b0, hl, hd⟩
  · have hwd : wordB c = true := by unfold wordB; rw [hl, Bool.true_or]
    rw [hwd]
    rw [hl] at HL
    rw [show decide (48 ≤ c.toNat ∧ c.toNat ≤ 57) = false from decide_eq_false (by omega)] at HD
    have q6 : ((c.toNat : Int) == 95) = false := by rw [beq_eq_false_iff_ne, ne_eq]; omega
    clear b0 b1 hl hwd
    go_enter Tryz.func118, Tryz.ntmps118
    go_wp2_with fail
    refine HL.mono ?_
    rintro e w2 ⟨rfl, rfl⟩
    clear HL
    clear HD
    go_wp2
    go_ret
    exact ⟨rfl, rfl⟩
  · have hwd : wordB c = true := by unfold wordB; rw [hl, Bool.true_or]
    rw [hwd]
    rw [hl] at HL
    rw [show decide (48 ≤ c.toNat ∧ c.toNat ≤ 57) = false from decide_eq_false (by omega)] at HD
    have q6 : ((c.toNat : Int) == 95) = false := by rw [beq_eq_false_iff_ne, ne_eq]; omega
    clear b0 b1 hl hwd
    go_enter Tryz.func118, Tryz.ntmps118
    go_wp2_with fail
    refine HL.mono ?_
    rintro e w2 ⟨rfl, rfl⟩
    clear HL
    clear HD
    go_wp2
    go_ret
    exact ⟨rfl, rfl⟩
  · have hwd : wordB c = true := by unfold wordB; rw [hl, hd]; rfl
    rw [hwd]
    rw [hl] at HL
    rw [show decide (48 ≤ c.toNat ∧ c.toNat ≤ 57) = false from decide_eq_false (by omega)] at HD
    have q6 : ((c.toNat : Int) == 95) = true := by rw [beq_iff_eq]; omega
    clear b0 hl hd hwd
    go_enter Tryz.func118, Tryz.ntmps118
    go_wp2_with fail
    refine HL.mono ?_
    rintro e w2 ⟨rfl, rfl⟩
    clear HL
    go_wp2_with fail
    refine HD.mono ?_
    rintro e w2 ⟨rfl, rfl⟩
    clear HD
    go_wp2
    go_ret
    exact ⟨rfl, rfl⟩
  · have hwd : wordB c = true := by unfold wordB; rw [hl, hd]; rfl
    rw [hwd]
    rw [hl] at HL
    rw [show decide (48 ≤ c.toNat ∧ c.toNat ≤ 57) = true from decide_eq_true (by omega)] at HD
    have q6 : ((c.toNat : Int) == 95) = false := by rw [beq_eq_false_iff_ne, ne_eq]; omega
    clear b0 b1 hl hd hwd
    go_enter Tryz.func118, Tryz.ntmps118
    go_wp2_with fail
    refine HL.mono ?_
    rintro e w2 ⟨rfl, rfl⟩
    clear HL
    go_wp2_with fail
    refine HD.mono ?_
    rintro e w2 ⟨rfl, rfl⟩
    clear HD
    go_wp2
    go_ret
    exact ⟨rfl, rfl⟩
  · have hwd : wordB c = false := by unfold wordB; rw [hl, hd]; rfl
    rw [hwd]
    rw [hl] at HL
    rw [show decide (48 ≤ c.toNat ∧ c.toNat ≤ 57) = false from decide_eq_false (by omega)] at HD
    have q6 : ((c.toNat : Int) == 95) = false := by rw [beq_eq_false_iff_ne, ne_eq]; omega
    clear b0 hl hd hwd
    go_enter Tryz.func118, Tryz.ntmps118
    go_wp2_with fail
    refine HL.mono ?_
    rintro e w2 ⟨rfl, rfl⟩
    clear HL
    go_wp2_with fail
    refine HD.mono ?_
    rintro e w2 ⟨rfl, rfl⟩
    clear HD
    go_wp2
    go_ret
    exact ⟨rfl, rfl⟩
  · have hwd : wordB c = false := by unfold wordB; rw [hl, hd]; rfl
    rw [hwd]
    rw [hl] at HL
    rw [show decide (48 ≤ c.toNat ∧ c.toNat ≤ 57) = false from decide_eq_false (by omega)] at HD
    have q6 : ((c.toNat : Int) == 95) = false := by rw [beq_eq_false_iff_ne, ne_eq]; omega
    clear b0 b1 hl hd hwd
    go_enter Tryz.func118, Tryz.ntmps118
    go_wp2_with fail
    refine HL.mono ?_
    rintro e w2 ⟨rfl, rfl⟩
    clear HL
    go_wp2_with fail
    refine HD.mono ?_
    rintro e w2 ⟨rfl, rfl⟩
    clear HD
    go_wp2
    go_ret
    exact ⟨rfl, rfl⟩
  · have hwd : wordB c = false := by unfold wordB; rw [hl, hd]; rfl
    rw [hwd]
    rw [hl] at HL
    rw [show decide (48 ≤ c.toNat ∧ c.toNat ≤ 57) = false from decide_eq_false (by omega)] at HD
    have q6 : ((c.toNat : Int) == 95) = false := by rw [beq_eq_false_iff_ne, ne_eq]; omega
    clear b0 b1 b2 hl hd hwd
    go_enter Tryz.func118, Tryz.ntmps118
    go_wp2_with fail
    refine HL.mono ?_
    rintro e w2 ⟨rfl, rfl⟩
    clear HL
    go_wp2_with fail
    refine HD.mono ?_
    rintro e w2 ⟨rfl, rfl⟩
    clear HD
    go_wp2
    go_ret
    exact ⟨rfl, rfl⟩
  · have hwd : wordB c = false := by unfold wordB; rw [hl, hd]; rfl
    rw [hwd]
    rw [hl] at HL
    rw [show decide (48 ≤ c.toNat ∧ c.toNat ≤ 57) = false from decide_eq_false (by omega)] at HD
    have q6 : ((c.toNat : Int) == 95) = false := by rw [beq_eq_false_iff_ne, ne_eq]; omega
    clear b0 hl hd hwd
    go_enter Tryz.func118, Tryz.ntmps118
    go_wp2_with fail
    refine HL.mono ?_
    rintro e w2 ⟨rfl, rfl⟩
    clear HL
    go_wp2_with fail
    refine HD.mono ?_
    rintro e w2 ⟨rfl, rfl⟩
    clear HD
    go_wp2
    go_ret
    exact ⟨rfl, rfl⟩
set_option maxHeartbeats 4000000 in
theorem rname_of (s : ByteArray) (R : Bool) (hR : Dg.isNameB s = R) (hs : s.size ≤ 9223372036854775807) (w : World) :
    Calls Tryz.prog 82 #[.string s] w fun e w' => e = .returned (.bool R) ∧ w' = w := by
  have HR := hide hR; clear hR
  go_enter Tryz.func82, Tryz.ntmps82
  go_wp2
  go_loop [3] (fun i => ∃ k : Nat, k ≤ s.size ∧ i = .int .i64 k ∧ Hid (∀ j c, j < k → (Dg.L s)[j]? = some c → wordB c = true)) (fun i => s.size - (intOf i).toNat)
  case atStart => exact ⟨0, by omega, rfl, fun j c hj => by omega⟩
  case round =>
    obtain ⟨k, hk, rfl, hm⟩ := hrel
    by_cases hlt : k < s.size
    · have hc := byte_at hlt
      obtain ⟨c, hcc⟩ : ∃ c, s[k]'hlt = c := ⟨_, rfl⟩
      rw [hcc] at hc
      have HC := hide hc; clear hc
      go_wp2_with fail
      refine (word5_of c w).mono ?_
      rintro e w' ⟨rfl, rfl⟩
      cases hw : wordB c with
      | true =>
        have HW := hide hw; clear hw
        go_wp2
        go_round
        case rel => exact ⟨k + 1, by omega, by go_num, fun j d hj hd => by
          by_cases e : j = k
          · rw [e, HC.out] at hd
            injection hd with hd
            rw [← hd]; exact HW.out
          · exact hm.out j d (by omega) hd⟩
        case measure => simp [intOf]; omega
      | false =>
        have E9 := hide (show false = R by
          rw [← HR.out]
          unfold Dg.isNameB
          rw [nameL_eq, show (Dg.L s).all wordB = false from List.all_eq_false.2 ⟨c, List.mem_of_getElem? HC.out, by rw [hw]; exact Bool.false_ne_true⟩]
          rfl)
        clear hw
        go_wp2
        go_ret
        exact ⟨ret_bool E9.out, rfl⟩
    · obtain rfl : k = s.size := by omega
      have hall : (Dg.L s).all wordB = true := List.all_eq_true.2 fun c hc => by
        obtain ⟨j, hj, rfl⟩ := List.mem_iff_getElem.1 hc
        exact hm.out j _ (by rw [← Dg.len_L]; exact hj) (List.getElem?_eq_getElem hj)
      have HE := hide (show Dg.isNameB s = ((match Dg.L s with | [] => false | c :: _ => Dg.letterB c) && decide (s.size ≤ 24)) by
        unfold Dg.isNameB
        rw [nameL_eq, hall, Bool.true_and])
      clear hall
      by_cases h0 : s.size = 0
      · have h1 : ¬ (0 : Int) < (s.size : Int) := by omega
        have E9 := hide (show false = R by
          rw [← HR.out, HE.out, show Dg.L s = [] from List.eq_nil_of_length_eq_zero (by rw [Dg.len_L]; exact h0)]
          rfl)
        clear h0
        go_wp2
        go_ret
        exact ⟨ret_bool E9.out, rfl⟩
      · have hlt0 : 0 < s.size := by omega
        have h1 : (0 : Int) < (s.size : Int) := by omega
        by_cases h2 : s.size ≤ 24
        · have h3 : (s.size : Int) ≤ 24 := by omega
          have hc := byte_at hlt0
          obtain ⟨c, hcc⟩ : ∃ c, s[0]'hlt0 = c := ⟨_, rfl⟩
          rw [hcc] at hc
          have E9 := hide (show Dg.letterB c = R by
            rw [← HR.out, HE.out, decide_eq_true h2, Bool.and_true]
            cases hL : Dg.L s with
            | nil => rw [hL] at hc; cases hc
            | cons d r => rw [hL] at hc; cases hc; rfl)
          clear hc h0 h2
          go_wp2_with fail
          refine (letter_of c w).mono ?_
          rintro e w' ⟨rfl, rfl⟩
          go_wp2
          go_ret
          exact ⟨ret_bool E9.out, rfl⟩
        · have h3 : ¬ (s.size : Int) ≤ 24 := by omega
          have E9 := hide (show false = R by rw [← HR.out, HE.out, decide_eq_false h2, Bool.and_false])
          clear h0 h2
          go_wp2
          go_ret
          exact ⟨ret_bool E9.out, rfl⟩
set_option maxHeartbeats 4000000 in
theorem rnum_of (s : ByteArray) (R : Bool) (hR : Dg.isNumB s = R) (hs : s.size ≤ 9223372036854775807) (w : World) :
    Calls Tryz.prog 84 #[.string s] w fun e w' => e = .returned (.bool R) ∧ w' = w := by
  have HR := hide hR; clear hR
  go_enter Tryz.func84, Tryz.ntmps84
  go_wp2
  go_loop [3] (fun i => ∃ k : Nat, k ≤ s.size ∧ i = .int .i64 k ∧ Hid (∀ j c, j < k → (Dg.L s)[j]? = some c → Dg.numC c = true)) (fun i => s.size - (intOf i).toNat)
  case atStart => exact ⟨0, by omega, rfl, fun j c hj => by omega⟩
  case round =>
    obtain ⟨k, hk, rfl, hm⟩ := hrel
    by_cases hlt : k < s.size
    · have hc := byte_at hlt
      obtain ⟨c, hcc⟩ : ∃ c, s[k]'hlt = c := ⟨_, rfl⟩
      rw [hcc] at hc
      have HC := hide hc; clear hc
      have hnc : Dg.numC c = decide ((48 ≤ c.toNat ∧ c.toNat ≤ 57) ∨ (97 ≤ c.toNat ∧ c.toNat ≤ 122)) := by
        unfold Dg.numC
        simp [UInt8.le_iff_toNat_le]
      rcases byte_cls c with ⟨b0, b1, hl⟩ | ⟨b0, b1, hl⟩ | ⟨b0, hl, hd⟩ | ⟨b0, b1, hl, hd⟩ | ⟨b0, hl, hd⟩ | ⟨b0, b1, hl, hd⟩ | ⟨b0, b1, b2, hl, hd⟩ | ⟨b0, hl, hd⟩
      · skip
        have q0 : 97 ≤ (c.toNat : Int) := by omega
        have q1 : (c.toNat : Int) ≤ 122 := by omega
        have q4 : 48 ≤ (c.toNat : Int) := by omega
        have q5 : ¬ (c.toNat : Int) ≤ 57 := by omega
        have HW := hide (show Dg.numC c = true by rw [hnc]; exact decide_eq_true (by omega))
        clear hnc
        go_wp2
        go_round
        case rel => exact ⟨k + 1, by omega, by go_num, fun j d hj hd => by
          by_cases e : j = k
          · rw [e, HC.out] at hd
            injection hd with hd
            rw [← hd]; exact HW.out
          · exact hm.out j d (by omega) hd⟩
        case measure => simp [intOf]; omega
      · skip
        have q0 : ¬ 97 ≤ (c.toNat : Int) := by omega
        have q1 : (c.toNat : Int) ≤ 122 := by omega
        have q4 : 48 ≤ (c.toNat : Int) := by omega
        have q5 : ¬ (c.toNat : Int) ≤ 57 := by omega
        have E9 := hide (show false = R by
          rw [← HR.out]
          unfold Dg.isNumB
          rw [show (Dg.L s).all Dg.numC = false from List.all_eq_false.2 ⟨c, List.mem_of_getElem? HC.out, by rw [hnc, decide_eq_false (by omega)]; exact Bool.false_ne_true⟩, Bool.and_false])
        clear hnc
        go_wp2
        go_ret
        exact ⟨ret_bool E9.out, rfl⟩
      · skip
        have q0 : ¬ 97 ≤ (c.toNat : Int) := by omega
        have q1 : (c.toNat : Int) ≤ 122 := by omega
        have q4 : 48 ≤ (c.toNat : Int) := by omega
        have q5 : ¬ (c.toNat : Int) ≤ 57 := by omega
        have E9 := hide (show false = R by
          rw [← HR.out]
          unfold Dg.isNumB
          rw [show (Dg.L s).all Dg.numC = false from List.all_eq_false.2 ⟨c, List.mem_of_getElem? HC.out, by rw [hnc, decide_eq_false (by omega)]; exact Bool.false_ne_true⟩, Bool.and_false])
        clear hnc
        go_wp2
        go_ret
        exact ⟨ret_bool E9.out, rfl⟩
      · skip
        have q0 : ¬ 97 ≤ (c.toNat : Int) := by omega
        have q1 : (c.toNat : Int) ≤ 122 := by omega
        have q4 : 48 ≤ (c.toNat : Int) := by omega
        have q5 : (c.toNat : Int) ≤ 57 := by omega
        have HW := hide (show Dg.numC c = true by rw [hnc]; exact decide_eq_true (by omega))
        clear hnc
        go_wp2
        go_round
        case rel => exact ⟨k + 1, by omega, by go_num, fun j d hj hd => by
          by_cases e : j = k
          · rw [e, HC.out] at hd
            injection hd with hd
            rw [← hd]; exact HW.out
          · exact hm.out j d (by omega) hd⟩
        case measure => simp [intOf]; omega
      · skip
        have q0 : ¬ 97 ≤ (c.toNat : Int) := by omega
        have q1 : (c.toNat : Int) ≤ 122 := by omega
        have q4 : ¬ 48 ≤ (c.toNat : Int) := by omega
        have q5 : (c.toNat : Int) ≤ 57 := by omega
        have E9 := hide (show false = R by
          rw [← HR.out]
          unfold Dg.isNumB
          rw [show (Dg.L s).all Dg.numC = false from List.all_eq_false.2 ⟨c, List.mem_of_getElem? HC.out, by rw [hnc, decide_eq_false (by omega)]; exact Bool.false_ne_true⟩, Bool.and_false])
        clear hnc
        go_wp2
        go_ret
        exact ⟨ret_bool E9.out, rfl⟩
      · skip
        have q0 : ¬ 97 ≤ (c.toNat : Int) := by omega
        have q1 : (c.toNat : Int) ≤ 122 := by omega
        have q4 : 48 ≤ (c.toNat : Int) := by omega
        have q5 : ¬ (c.toNat : Int) ≤ 57 := by omega
        have E9 := hide (show false = R by
          rw [← HR.out]
          unfold Dg.isNumB
          rw [show (Dg.L s).all Dg.numC = false from List.all_eq_false.2 ⟨c, List.mem_of_getElem? HC.out, by rw [hnc, decide_eq_false (by omega)]; exact Bool.false_ne_true⟩, Bool.and_false])
        clear hnc
        go_wp2
        go_ret
        exact ⟨ret_bool E9.out, rfl⟩
      · skip
        have q0 : ¬ 97 ≤ (c.toNat : Int) := by omega
        have q1 : (c.toNat : Int) ≤ 122 := by omega
        have q4 : 48 ≤ (c.toNat : Int) := by omega
        have q5 : ¬ (c.toNat : Int) ≤ 57 := by omega
        have E9 := hide (show false = R by
          rw [← HR.out]
          unfold Dg.isNumB
          rw [show (Dg.L s).all Dg.numC = false from List.all_eq_false.2 ⟨c, List.mem_of_getElem? HC.out, by rw [hnc, decide_eq_false (by omega)]; exact Bool.false_ne_true⟩, Bool.and_false])
        clear hnc
        go_wp2
        go_ret
        exact ⟨ret_bool E9.out, rfl⟩
      · skip
        have q0 : 97 ≤ (c.toNat : Int) := by omega
        have q1 : ¬ (c.toNat : Int) ≤ 122 := by omega
        have q4 : 48 ≤ (c.toNat : Int) := by omega
        have q5 : ¬ (c.toNat : Int) ≤ 57 := by omega
        have E9 := hide (show false = R by
          rw [← HR.out]
          unfold Dg.isNumB
          rw [show (Dg.L s).all Dg.numC = false from List.all_eq_false.2 ⟨c, List.mem_of_getElem? HC.out, by rw [hnc, decide_eq_false (by omega)]; exact Bool.false_ne_true⟩, Bool.and_false])
        clear hnc
        go_wp2
        go_ret
        exact ⟨ret_bool E9.out, rfl⟩
    · obtain rfl : k = s.size := by omega
      have hall : (Dg.L s).all Dg.numC = true := List.all_eq_true.2 fun c hc => by
        obtain ⟨j, hj, rfl⟩ := List.mem_iff_getElem.1 hc
        exact hm.out j _ (by rw [← Dg.len_L]; exact hj) (List.getElem?_eq_getElem hj)
      have HE := hide (show decide (s.size ≤ 8) = R by
        rw [← HR.out]
        unfold Dg.isNumB
        rw [hall, Bool.and_true])
      clear hall
      by_cases h8 : s.size ≤ 8
      · have h3 : (s.size : Int) ≤ 8 := by omega
        have E9 := hide (show true = R by rw [← HE.out, decide_eq_true h8])
        clear h8
        go_wp2
        go_ret
        exact ⟨ret_bool E9.out, rfl⟩
      · have h3 : ¬ (s.size : Int) ≤ 8 := by omega
        have E9 := hide (show false = R by rw [← HE.out, decide_eq_false h8])
        clear h8
        go_wp2
        go_ret
        exact ⟨ret_bool E9.out, rfl⟩
end Go.Proofs.YtobhpeockinnjaaGreatDoor
/- Valid of the reference. No conditions but those that each theorem states. -/
namespace Go.Proofs.YtobhpeockinnjaaGreatDoor
open Go Go.RowKit Go.Sort Go.Maps
theorem valid_no {l : List Dg.It} {k : Nat} (hk : k < l.length) {vs : List (List ByteArray)} {s : Dg.Wk} (hW : Dg.walkTo l k = some (vs, s)) {x : Dg.It} (hx : l[k] = x) (h : Dg.okR l (l.length + 1) k x = false) : Dg.validC l = false := by
  subst hx
  cases hv : Dg.validC l with
  | false => rfl
  | true =>
    obtain ⟨s1, h1, _⟩ := Dg.valid_walk hv
    obtain ⟨s2, h2⟩ := Dg.walk_le (Nat.le_refl _) h1 (k + 1) (by omega)
    obtain ⟨vs0, s0, o0, w0, st0, _⟩ := Dg.walk_step hk h2
    rw [hW] at w0
    injection w0 with w0
    injection w0 with _ w0
    have := Dg.step_ref hk hW (l.length + 1) (by omega)
    rw [w0, st0, h] at this
    cases this
theorem valid_on {l : List Dg.It} {k : Nat} (hk : k < l.length) {vs : List (List ByteArray)} {s : Dg.Wk} (hW : Dg.walkTo l k = some (vs, s)) {x : Dg.It} (hx : l[k] = x) (h : Dg.okR l (l.length + 1) k x = true) : ∃ vs' s', Dg.walkTo l (k + 1) = some (vs', s') := by
  subst hx
  have := Dg.step_ref hk hW (l.length + 1) (by omega)
  rw [h] at this
  rw [Dg.walkTo_succ _ _ hk, hW]
  cases hs : Dg.stepI s l[k] with
  | none => rw [hs] at this; cases this
  | some q => obtain ⟨o, s'⟩ := q; exact ⟨vs ++ [o], s', by simp only [hs]⟩
theorem valid_len {l : List Dg.It} (h : 2000 < l.length) : Dg.validC l = false := by
  unfold Dg.validC
  rw [decide_eq_false (by omega), Bool.and_false]
theorem valid_done {l : List Dg.It} (h : l.length ≤ 2000) {vs : List (List ByteArray)} {s : Dg.Wk} (hW : Dg.walkTo l l.length = some (vs, s)) : Dg.validC l = true := by
  unfold Dg.validC
  rw [hW, decide_eq_true h]
  rfl
/-- A code in its variable with an item. -/
structure CI (g : Nat) (A : Option Addr) (n c : Nat) (l : List Dg.It) (bx : Nat) (x : Dg.It) (X : World) : Prop where
  row : X.heap[g]? = some (.cells #[.slice A n c] 24 (0, 0))
  its : Its X X.heap.size A l
  it : X.heap[bx]? = some (.cells #[.int .i64 x.kind, .string x.id, .string x.parent, .string x.number, .string x.north, .string x.south, .bool x.gone] 26 (0, 0))
theorem CI.below {g : Nat} {A : Option Addr} {n c : Nat} {l : List Dg.It} {bx : Nat} {x : Dg.It} {X X' : World} (h : CI g A n c l bx x X) (hb : Below X.heap.size X X') : CI g A n c l bx x X' := ⟨iNext h.row hb, h.its.keep hb, iNext h.it hb⟩
set_option maxRecDepth 100000 in
set_option maxHeartbeats 16000000 in
theorem rvalidC_of (l : List Dg.It) (A : Option Addr) (n c : Nat) (hl : l.length = n) (hw : ∀ x ∈ l, ItW x) (hn : n ≤ 1048576) (w : World) (hI : Its w w.heap.size A l) (R : Bool) (hR : Dg.validC l = R) :
    Calls Tryz.prog 45 #[.agg #[.slice A n c]] w fun e w' => e = .returned (.bool R) ∧ Below w.heap.size w w' := by
  have hx1 := Below.news (Below.refl w.heap.size w) (.cells #[.slice A n c] 24)
  have hS1 : CR w.heap.size A n c l (w.alloc (.cells #[.slice A n c] 24)) := ⟨heap_alloc_new w _, hI.keep hx1⟩
  have HL := hide hl; have HR := hide hR; have HWW := hide hw
  clear hl hI hR hw
  go_enter Tryz.func45, Tryz.ntmps45
  have hc := iCells0 hS1.row
  by_cases h2 : n ≤ 2000
  · have h2' : ¬ (2000 : Int) < (n : Int) := by omega
    go_wp2
    clear hc h2'
    go_loopw [3] (fun iv wr => ∃ k : Nat, k ≤ n ∧ iv = .int .i64 (k : Int) ∧ Hid (∃ vs s, Dg.walkTo l k = some (vs, s)) ∧ CR w.heap.size A n c l wr ∧ Below w.heap.size w wr) (fun iv _ => n - (intOf iv).toNat)
    case atStart => exact ⟨0, by omega, rfl, ⟨_, _, rfl⟩, hS1, hx1⟩
    case round =>
      clear hS1 hx1
      obtain ⟨k, hk, rfl, hwk, hS, hb⟩ := hrel
      have hc := iCells0 hS.row
      by_cases hlt : k < n
      · have hkn : (k : Int) < (n : Int) := by omega
        have hk0 : (0 : Int) ≤ (k : Int) := by omega
        have hkl : k < l.length := by rw [HL.out]; exact hlt
        obtain ⟨b, off, rfl⟩ := hS.its.some hkl
        obtain ⟨x, hx⟩ : ∃ x, l[k] = x := ⟨_, rfl⟩
        obtain ⟨vs, s, hW⟩ := hwk.out
        obtain ⟨_, p0, p1, p2, p3, p4, p5, p6⟩ := hS.its.cells hkl x hx
        have hxw : ItW x := by rw [← hx]; exact HWW.out _ (List.getElem_mem hkl)
        have hiz := hxw.iz; have hnz := hxw.nz
        obtain ⟨P, hP⟩ : ∃ P, (Dg.kOf s.op l[k].parent).isSome = P := ⟨_, rfl⟩
        have hpr : Dg.placeR l (l.length + 1) k x.parent = P := by rw [← hP, ← hx]; exact Dg.place_eq (by omega) hW (l.length + 1) (by omega) l[k].parent
        obtain ⟨N1, hN1⟩ : ∃ N1, Dg.isNameB x.id = N1 := ⟨_, rfl⟩
        obtain ⟨N2, hN2⟩ : ∃ N2, Dg.isNumB x.number = N2 := ⟨_, rfl⟩
        have hfind : (Dg.inB ((l.take k).map Dg.It.id) x.id = true ∧ ∃ t : Nat, findX l x.id = (t : Int) ∧ t ≠ k) ∨ (Dg.inB ((l.take k).map Dg.It.id) x.id = false ∧ findX l x.id = (k : Int)) := by
          cases hin : Dg.inB ((l.take k).map Dg.It.id) x.id with
          | true =>
            obtain ⟨z, hz, e⟩ := List.mem_map.1 ((Dg.inB_iff _ _).1 hin)
            obtain ⟨t, ht, rfl⟩ := List.mem_take_iff_getElem.1 hz
            exact Or.inl ⟨rfl, t, by rw [← e]; exact findX_walk (by omega) hW (by omega), by omega⟩
          | false => exact Or.inr ⟨rfl, findX_at hkl (by rw [hx]) fun y hy e => (Dg.inB_no _ _).1 hin (List.mem_map.2 ⟨y, hy, e⟩)⟩
        have HX := hide hx; have HW := hide hW; have HP := hide hP; have HPR := hide hpr; have HN1 := hide hN1; have HN2 := hide hN2; have HFD := hide hfind
        clear hx hW hP hpr hN1 hN2 hfind hwk hxw
        go_upto_region 7 with (fail)
        have hx2 := Below.news (Below.refl wr.heap.size wr) (.cells #[.int .i64 x.kind, .string x.id, .string x.parent, .string x.number, .string x.north, .string x.south, .bool x.gone] 26)
        have hS0 : CI w.heap.size (some ⟨b, off, none⟩) n c l wr.heap.size x (wr.alloc (.cells #[.int .i64 x.kind, .string x.id, .string x.parent, .string x.number, .string x.north, .string x.south, .bool x.gone] 26)) := ⟨iNext hS.row hx2, hS.its.keep hx2, heap_alloc_new wr (.cells #[.int .i64 x.kind, .string x.id, .string x.parent, .string x.number, .string x.north, .string x.south, .bool x.gone] 26)⟩
        have hb0 := bnext hb hx2
        clear hS hb hx2 hc p0 p1 p2 p3 p4 p5 p6
        generalize wr.alloc (.cells #[.int .i64 x.kind, .string x.id, .string x.parent, .string x.number, .string x.north, .string x.south, .bool x.gone] 26) = w0 at *
        generalize wr.heap.size = bx at *
        have hc := iCells0 hS0.row
        obtain ⟨c0, c1, c2, c3, c4, c5, c6⟩ := iCells hS0.it
        go_wp2_with fail
        refine (rname_of x.id N1 HN1.out hiz w0).mono ?_
        rintro e w1 ⟨rfl, rfl⟩
        cases N1 with
        | false =>
          have E9 := hide (show false = R by rw [← HR.out]; exact (valid_no hkl HW.out HX.out (by unfold Dg.okR; simp only [HN1.out, Bool.false_and])).symm)
          go_wp2
          go_ret
          exact ⟨ret_bool E9.out, hb0⟩
        | true =>
          rcases HFD.out with ⟨hin, t, hft, htk⟩ | ⟨hin, hft⟩
          · have HFT := hide hft
            have htk2 : ((t : Int) == (k : Int)) = false := beq_eq_false_iff_ne.2 (by omega)
            have htk3 : ((t : Int) != (k : Int)) = true := by rw [bne, htk2]; rfl
            clear hft htk htk2
            have E9 := hide (show false = R by rw [← HR.out]; exact (valid_no hkl HW.out HX.out (by unfold Dg.okR; simp only [hin, Bool.not_true, Bool.false_and, Bool.and_false])).symm)
            clear hin
            go_wp2_with fail
            refine (rfind_of l (some ⟨b, off, none⟩) n c HL.out (by omega) x.id w1 hS0.its (t : Int) HFT.out).mono ?_
            rintro e w2 ⟨rfl, hx2⟩
            have hS2 := hS0.below hx2
            have hb2 := bnext hb0 hx2
            clear hS0 hb0 hx2
            try clear hc c0 c1 c2 c3 c4 c5 c6
            go_wp2
            go_ret
            exact ⟨ret_bool E9.out, hb2⟩
          · have HFT := hide hft; have HIN := hide hin
            clear hft hin
            go_wp2_with fail
            refine (rfind_of l (some ⟨b, off, none⟩) n c HL.out (by omega) x.id w1 hS0.its (k : Int) HFT.out).mono ?_
            rintro e w3 ⟨rfl, hx3⟩
            have hS3 := hS0.below hx3
            have hb3 := bnext hb0 hx3
            clear hS0 hb0 hx3
            try clear hc c0 c1 c2 c3 c4 c5 c6
            have hc := iCells0 hS3.row
            obtain ⟨c0, c1, c2, c3, c4, c5, c6⟩ := iCells hS3.it
            go_wp2_with fail
            refine (rnum_of x.number N2 HN2.out hnz w3).mono ?_
            rintro e w9_ ⟨rfl, rfl⟩
            cases N2 with
            | false =>
              have E9 := hide (show false = R by rw [← HR.out]; exact (valid_no hkl HW.out HX.out (by unfold Dg.okR; simp only [HN2.out, Bool.false_and, Bool.and_false])).symm)
              go_wp2
              go_ret
              exact ⟨ret_bool E9.out, hb3⟩
            | true =>
              have hne : x.north.toList.isEmpty = decide (x.north = Dg.nil8) := (emp_iff _).symm
              have hse : x.south.toList.isEmpty = decide (x.south = Dg.nil8) := (emp_iff _).symm
              by_cases k1 : x.kind = 1
              · have kb1 : (x.kind == 1) = true := beq_iff_eq.2 k1
                have kc1 : (x.kind != 1) = false := by rw [bne, kb1]; rfl
                have dk1 : decide (x.kind = 1) = true := decide_eq_true k1
                have DK := hide dk1
                clear k1 dk1
                cases hN : decide (x.north = Dg.nil8) with
                | false =>
                  rw [hN] at hne
                  have E9 := hide (show false = R by rw [← HR.out]; exact (valid_no hkl HW.out HX.out (by unfold Dg.okR; simp only [DK.out, hN, Bool.not_true, Bool.not_false, Bool.true_and, Bool.false_and, Bool.and_false, Bool.true_or, Bool.and_true])).symm)
                  clear hN
                  go_wp2
                  go_ret
                  exact ⟨ret_bool E9.out, hb3⟩
                | true =>
                  rw [hN] at hne
                  cases hS9 : decide (x.south = Dg.nil8) with
                  | false =>
                    rw [hS9] at hse
                    have E9 := hide (show false = R by rw [← HR.out]; exact (valid_no hkl HW.out HX.out (by unfold Dg.okR; simp only [DK.out, hN, hS9, Bool.not_true, Bool.not_false, Bool.true_and, Bool.false_and, Bool.and_false, Bool.true_or, Bool.or_true, Bool.and_true])).symm)
                    clear hN hS9
                    go_wp2
                    go_ret
                    exact ⟨ret_bool E9.out, hb3⟩
                  | true =>
                    rw [hS9] at hse
                    cases hg : x.gone with
                    | true =>
                      rw [hg] at c6
                      have E9 := hide (show false = R by rw [← HR.out]; exact (valid_no hkl HW.out HX.out (by unfold Dg.okR; simp only [DK.out, hN, hS9, hg, Bool.not_true, Bool.true_and, Bool.false_and, Bool.and_false, Bool.true_or, Bool.or_true, Bool.and_true])).symm)
                      clear hN hS9 hg
                      go_wp2
                      go_ret
                      exact ⟨ret_bool E9.out, hb3⟩
                    | false =>
                      rw [hg] at c6
                      have hz4 : ¬ (400 : Int) < (x.north.size : Int) := by rw [of_decide_eq_true hN]; decide
                      have hz5 : ¬ (400 : Int) < (x.south.size : Int) := by rw [of_decide_eq_true hS9]; decide
                      have HOKP := hide (show Dg.okR l (l.length + 1) k x = P by
                        unfold Dg.okR
                        rw [HPR.out]
                        simp only [HN1.out, HIN.out, HN2.out, DK.out, hN, hS9, hg, decide_eq_true (show x.north.size ≤ 400 by rw [of_decide_eq_true hN]; decide), decide_eq_true (show x.south.size ≤ 400 by rw [of_decide_eq_true hS9]; decide), Bool.not_true, Bool.not_false, Bool.true_and, Bool.and_false, Bool.true_or, Bool.or_false])
                      clear hN hS9 hg
                      go_wp2_with fail
                      refine (place_of l (some ⟨b, off, none⟩) n c HL.out (by omega) w9_ hS3.its k hkl vs s HW.out P HP.out).mono ?_
                      rintro e w4 ⟨rfl, hx4⟩
                      have hS4 := hS3.below hx4
                      have hb4 := bnext hb3 hx4
                      clear hS3 hb3 hx4
                      try clear hc c0 c1 c2 c3 c4 c5 c6
                      cases P with
                      | false =>
                        have E9 := hide (show false = R by rw [← HR.out]; exact (valid_no hkl HW.out HX.out HOKP.out).symm)
                        go_wp2
                        go_ret
                        exact ⟨ret_bool E9.out, hb4⟩
                      | true =>
                        have HS := hS4
                        go_wp2
                        go_roundw
                        case rel => exact ⟨k + 1, by omega, by go_num, valid_on hkl HW.out HX.out HOKP.out, ⟨HS.row, HS.its⟩, hb4⟩
                        case measure => simp [intOf]; omega
              · have kb1 : (x.kind == 1) = false := beq_eq_false_iff_ne.2 k1
                have kc1 : (x.kind != 1) = true := by rw [bne, kb1]; rfl
                have dk1 : decide (x.kind = 1) = false := decide_eq_false k1
                have DK := hide dk1
                clear dk1
                by_cases k2 : x.kind = 2
                · have kb2 : (x.kind == 2) = true := beq_iff_eq.2 k2
                  have kc2 : (x.kind != 2) = false := by rw [bne, kb2]; rfl
                  have dk2 : decide (x.kind = 2) = true := decide_eq_true k2
                  have DK2 := hide dk2
                  clear k1 k2 dk2
                  by_cases z4 : x.north.size ≤ 400
                  · by_cases z5 : x.south.size ≤ 400
                    · skip
                      have hz4 : ¬ (400 : Int) < (x.north.size : Int) := by omega
                      have hz5 : ¬ (400 : Int) < (x.south.size : Int) := by omega
                      have HOKP := hide (show Dg.okR l (l.length + 1) k x = P by
                        unfold Dg.okR
                        rw [HPR.out]
                        simp only [HN1.out, HIN.out, HN2.out, DK.out, DK2.out, decide_eq_true (show x.north.size ≤ 400 by omega), decide_eq_true (show x.south.size ≤ 400 by omega), Bool.not_false, Bool.true_and, Bool.false_and, Bool.or_true])
                      clear z4 z5
                      go_wp2_with fail
                      refine (place_of l (some ⟨b, off, none⟩) n c HL.out (by omega) w9_ hS3.its k hkl vs s HW.out P HP.out).mono ?_
                      rintro e w5 ⟨rfl, hx5⟩
                      have hS5 := hS3.below hx5
                      have hb5 := bnext hb3 hx5
                      clear hS3 hb3 hx5
                      try clear hc c0 c1 c2 c3 c4 c5 c6
                      cases P with
                      | false =>
                        have E9 := hide (show false = R by rw [← HR.out]; exact (valid_no hkl HW.out HX.out HOKP.out).symm)
                        go_wp2
                        go_ret
                        exact ⟨ret_bool E9.out, hb5⟩
                      | true =>
                        have HS := hS5
                        go_wp2
                        go_roundw
                        case rel => exact ⟨k + 1, by omega, by go_num, valid_on hkl HW.out HX.out HOKP.out, ⟨HS.row, HS.its⟩, hb5⟩
                        case measure => simp [intOf]; omega
                    · have hz4 : ¬ (400 : Int) < (x.north.size : Int) := by omega
                      have hz5 : (400 : Int) < (x.south.size : Int) := by omega
                      have dz : decide (x.south.size ≤ 400) = false := decide_eq_false z5
                      have E9 := hide (show false = R by rw [← HR.out]; exact (valid_no hkl HW.out HX.out (by unfold Dg.okR; simp only [dz, Bool.false_and, Bool.and_false])).symm)
                      clear z4 z5 dz
                      go_wp2
                      go_ret
                      exact ⟨ret_bool E9.out, hb3⟩
                  · have hz4 : (400 : Int) < (x.north.size : Int) := by omega
                    have dz : decide (x.north.size ≤ 400) = false := decide_eq_false z4
                    have E9 := hide (show false = R by rw [← HR.out]; exact (valid_no hkl HW.out HX.out (by unfold Dg.okR; simp only [dz, Bool.false_and, Bool.and_false])).symm)
                    clear z4 dz
                    go_wp2
                    go_ret
                    exact ⟨ret_bool E9.out, hb3⟩
                · have kb2 : (x.kind == 2) = false := beq_eq_false_iff_ne.2 k2
                  have kc2 : (x.kind != 2) = true := by rw [bne, kb2]; rfl
                  have dk2 : decide (x.kind = 2) = false := decide_eq_false k2
                  have E9 := hide (show false = R by rw [← HR.out]; exact (valid_no hkl HW.out HX.out (by unfold Dg.okR; simp only [DK.out, dk2, Bool.not_false, Bool.false_and, Bool.and_false, Bool.or_false])).symm)
                  clear k1 k2 dk2
                  go_wp2
                  go_ret
                  exact ⟨ret_bool E9.out, hb3⟩
      · obtain rfl : k = n := by omega
        have E9 := hide (show true = R by
          rw [← HR.out]
          obtain ⟨vs, s, hW⟩ := hwk.out
          exact (valid_done (by have := HL.out; omega) (by rw [HL.out]; exact hW)).symm)
        go_wp2
        go_ret
        exact ⟨ret_bool E9.out, hb⟩
  · have h2' : (2000 : Int) < (n : Int) := by omega
    have E9 := hide (show false = R by rw [← HR.out]; exact (valid_len (by have := HL.out; omega)).symm)
    go_wp2
    go_ret
    exact ⟨ret_bool E9.out, hx1⟩
end Go.Proofs.YtobhpeockinnjaaGreatDoor
/- Leaves of the reference. No conditions but those that each theorem states. -/
namespace Go.Proofs.YtobhpeockinnjaaGreatDoor
open Go Go.RowKit Go.Sort Go.Maps
theorem ret_sl {A : Option Addr} {n m c : Nat} (h : n = m) : Ending.returned (.slice A n c) = .returned (.slice A m c) := by rw [h]
theorem leaves_snoc (l : List Dg.It) (k : Nat) (hk : k < l.length) : Dg.leavesOf (l.take (k + 1)) = Dg.leavesOf (l.take k) ++ (if l[k].gone = true then [] else [Dg.leafI l[k]]) := by
  rw [List.take_succ_eq_append_getElem hk]
  unfold Dg.leavesOf
  rw [List.filter_append, List.map_append]
  congr 1
  cases hg : l[k].gone
  · rw [List.filter_cons_of_pos (by rw [hg]; rfl)]; rfl
  · rw [List.filter_cons_of_neg (by rw [hg]; decide)]; rfl
set_option maxRecDepth 100000 in
set_option maxHeartbeats 8000000 in
theorem rleaves_of (l : List Dg.It) (A : Option Addr) (n c : Nat) (hl : l.length = n) (hw : ∀ x ∈ l, ItW x) (hn : n ≤ 1048576) (w : World) (hI : Its w w.heap.size A l) (hz : ∀ x ∈ l, ∀ s ∈ Dg.fieldsI x, s.size ≤ 1048576) (L : List ByteArray) (hL : Dg.leavesC l = L) (m : Nat) (hm : L.length = m) :
    Calls Tryz.prog 47 #[.agg #[.slice A n c]] w fun e w' => (∃ A' c', e = .returned (.slice A' m c') ∧ m ≤ c' ∧ Strs w' w'.heap.size A' L) ∧ Below w.heap.size w w' := by
  have hx1 := Below.news (Below.refl w.heap.size w) (.cells #[.slice A n c] 24)
  have hS1 : CR w.heap.size A n c l (w.alloc (.cells #[.slice A n c] 24)) := ⟨heap_alloc_new w _, hI.keep hx1⟩
  have HL := hide hl; have HW := hide hw; have HZ := hide hz; have HL7 := hide hL; have HM := hide hm; have HI := hide hI
  clear hl hI hw hz hL hm
  go_enter Tryz.func47, Tryz.ntmps47
  go_wp2_with fail
  generalize w.alloc (.cells #[.slice A n c] 24) = w1 at *
  have hc := iCells0 hS1.row
  go_wp2_with fail
  obtain ⟨V, hV⟩ : ∃ V, Dg.validC l = V := ⟨_, rfl⟩
  refine (rvalidC_of l A n c HL.out HW.out hn w1 hS1.its V hV).mono ?_
  rintro e w2 ⟨rfl, hx⟩
  have hS2 := hS1.below hx
  have hb2 := bnext hx1 hx
  clear hS1 hx1 hx hc
  have hc := iCells0 hS2.row
  cases V with
  | false =>
    have h0 : L = [] := by rw [← HL7.out]; unfold Dg.leavesC; rw [if_neg (by rw [hV]; exact Bool.false_ne_true)]
    have hm0 : m = 0 := by rw [← HM.out, h0]; rfl
    have H0 := hide h0; have HM0 := hide hm0
    clear h0 hm0 hV hc
    go_wp2
    go_ret
    exact ⟨⟨none, 0, ret_sl HM0.out.symm, by rw [HM0.out]; exact Nat.le_refl _, by rw [H0.out]; exact Strs.nil _ _ _⟩, hb2⟩
  | true =>
    have hLV : Dg.leavesOf l = L := by rw [← HL7.out]; unfold Dg.leavesC; rw [if_pos hV]
    have HLV := hide hLV
    clear hLV hV
    have hr2 := hS2.row
    clear hS2
    go_wp2
    clear hc
    go_loopw [3, 4] (fun v iv wr => ∃ k : Nat, k ≤ n ∧ iv = .int .i64 (k : Int) ∧ Below w.heap.size w wr ∧ wr.heap[w.heap.size]? = some (.cells #[.slice A n c] 24 (0, 0)) ∧ OwnS wr (w.heap.size + 1) v (Dg.leavesOf (l.take k))) (fun _ iv _ => n - (intOf iv).toNat)
    case atStart => exact ⟨0, by omega, rfl, hb2, hr2, OwnS.nil _ _⟩
    case round =>
      clear hr2 hb2
      obtain ⟨k, hk, rfl, hb, hr, hO⟩ := hrel
      have hc := iCells0 hr
      by_cases hlt : k < n
      · have hkn : (k : Int) < (n : Int) := by omega
        have hk0 : (0 : Int) ≤ (k : Int) := by omega
        have hkl : k < l.length := by rw [HL.out]; exact hlt
        have hIr := HI.out.below hb
        obtain ⟨b, off, rfl⟩ := hIr.some hkl
        obtain ⟨x, hx⟩ : ∃ x, l[k] = x := ⟨_, rfl⟩
        obtain ⟨_, p0, p1, p2, p3, p4, p5, p6⟩ := hIr.cells hkl x hx
        have hsn := leaves_snoc l k hkl
        rw [hx] at hsn
        have hln : (Dg.leavesOf (l.take k)).length ≤ 1048576 := by
          rw [Dg.leaves_len]
          exact Nat.le_trans List.countP_le_length (by rw [List.length_take]; omega)
        have HX := hide hx; have HSN := hide hsn; have HLN := hide hln
        clear hx hIr hsn hln
        have hx2 := Below.news (Below.refl wr.heap.size wr) (.cells #[.int .i64 x.kind, .string x.id, .string x.parent, .string x.number, .string x.north, .string x.south, .bool x.gone] 26)
        have hrx := heap_alloc_new wr (.cells #[.int .i64 x.kind, .string x.id, .string x.parent, .string x.number, .string x.north, .string x.south, .bool x.gone] 26)
        have hr1 := iNext hr hx2
        have hO1 := OwnS.below hO hx2
        have hb1 := bnext hb hx2
        go_upto_region 8 with (fail)
        clear hO hr hb hc p0 p1 p2 p3 p4 p5 p6 hx2
        generalize wr.alloc (.cells #[.int .i64 x.kind, .string x.id, .string x.parent, .string x.number, .string x.north, .string x.south, .bool x.gone] 26) = w3 at *
        generalize wr.heap.size = bx at *
        obtain ⟨c0, c1, c2, c3, c4, c5, c6⟩ := iCells hrx
        cases hg : x.gone with
        | true =>
          rw [hg] at c6 HSN
          clear hg
          go_wp2
          go_roundw
          case rel => exact ⟨k + 1, by omega, by go_num, hb1, hr1, by rw [HSN.out, if_pos rfl, List.append_nil]; exact hO1⟩
          case measure => simp [intOf]; omega
        | false =>
          rw [hg] at c6 HSN
          have hsz : ∀ s ∈ leafS x, s.size ≤ 1048576 := leafS_size (by decide) (by rw [← HX.out]; exact HZ.out _ (List.getElem_mem hkl))
          go_wp2_with fail
          obtain ⟨K, hK⟩ : ∃ K, Dg.leafI x = K := ⟨_, rfl⟩
          have hrl := rleaf_of x hsz w3 K hK
          rw [hg] at hrl
          refine hrl.mono ?_
          rintro e w4 ⟨rfl, hx4⟩
          have hr4 := iNext hr1 hx4
          have hO4 := OwnS.below hO1 hx4
          have hb4 := bnext hb1 hx4
          have HK := hide hK
          clear hr1 hO1 hb1 hx4 hrl hsz hg hrx c0 c1 c2 c3 c4 c5 c6 hK
          have LITX := hide (Below.news (Below.refl w4.heap.size w4) (.cells #[.string K] 9))
          have Strs1 : Hid (∀ (j : Nat) s, [K][j]? = some s → (w4.alloc (.cells #[.string K] 9)).cell? ((⟨w4.heap.size, 0, none⟩ : Addr).add j) = some (.string s)) := fun j s hj => by
            rw [addr_off, cell_of_row _ _ _ _ _ (0, 0) (heap_alloc_new w4 _), Nat.zero_add, ← Array.getElem?_toList]
            have h9 : ([K].map Value.string)[j]? = some (.string s) := by rw [List.getElem?_map, hj]; rfl
            exact h9
          have HB1 := hide (show w.heap.size + 1 ≤ w4.heap.size by have := lt_of_block hr4; omega)
          have HBW := hide hb4
          go_wp2_with (at_builtin; refine step_ag rfl (.tmp 24) (.tmp 27) rfl (w.heap.size + 1) _ (Dg.leavesOf (l.take k)) [K] rfl (OwnS.below hO4 LITX.out) ⟨w4.heap.size, 0, none⟩ 1 1 rfl rfl (Strs1.out) (by have := HLN.out; omega) (Nat.le_trans HB1.out LITX.out.size) ?_; intro v8 u8 hO8 hg8 hat8)
          have hb8 := grown_up (bnext HBW.out LITX.out) hg8 (fun g hg => by have := (OwnV.lt hO4 hg).1; omega)
          have hr8 := grown_row hg8 (iNext hr4 LITX.out) (fun g hg => by have := (OwnV.lt hO4 hg).1; omega)
          go_roundw
          case rel => exact ⟨k + 1, by omega, by go_num, hb8, hr8, by rw [HSN.out, if_neg (by decide), HK.out]; exact hO8⟩
          case measure => simp [intOf]; omega
      · obtain rfl : k = n := by omega
        have HE := hide (show Dg.leavesOf (l.take k) = L by rw [← HL.out, List.take_length, HLV.out])
        rw [HE.out] at hO
        obtain ⟨A', c', rfl, hcc, hS⟩ := hO.strs
        rw [HM.out] at hcc
        have HCC := hide hcc
        clear hcc
        go_wp2
        go_ret
        exact ⟨⟨A', c', ret_sl HM.out, HCC.out, hS⟩, hb⟩
end Go.Proofs.YtobhpeockinnjaaGreatDoor
/- sync.Once of one goroutine, after the guide's worked proof: the lock, the flag, the slow road with whatever function. No conditions but those that each theorem states. -/
namespace Go.Proofs.YtobhpeockinnjaaGreatDoor
open Go Go.RowKit Go.Sort
theorem iCells5 {w : World} {g : Nat} {a0 a1 a2 a3 a4 : Value} {T : TypeId} (h : w.heap[g]? = some (.cells #[a0, a1, a2, a3, a4] T (0, 0))) :
    w.cell? ⟨g, 0, none⟩ = some a0 ∧ w.cell? ⟨g, 1, none⟩ = some a1 ∧ w.cell? ⟨g, 2, none⟩ = some a2 ∧ w.cell? ⟨g, 3, none⟩ = some a3 ∧ w.cell? ⟨g, 4, none⟩ = some a4 := by
  refine ⟨?_, ?_, ?_, ?_, ?_⟩ <;> (rw [cell_of_row _ _ _ _ _ (0, 0) h]; rfl)
theorem setCell_rowN {w : World} {g : Nat} {cs : Array Value} {T : TypeId} (h : w.heap[g]? = some (.cells cs T (0, 0))) (j : Nat) (u : Value) : (w.setCell ⟨g, j, none⟩ u).heap[g]? = some (.cells (cs.setIfInBounds j u) T (0, 0)) := by
  simp only [World.setCell, Array.getElem?_modify, h]
  simp
end Go.Proofs.YtobhpeockinnjaaGreatDoor

