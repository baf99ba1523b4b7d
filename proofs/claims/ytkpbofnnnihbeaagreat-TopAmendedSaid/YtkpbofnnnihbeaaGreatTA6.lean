/- Walks and laws of this seat, several texts in one. No conditions but those that each theorem states. -/
import Derived.Test.YtkpbofnnnihbeaaGreatTA5
import Derived.Lib.IndexMore
import Derived.Deep.DeepCutAuto
set_option maxRecDepth 100000
set_option maxHeartbeats 16000000
set_option linter.unusedSimpArgs false
set_option linter.unusedVariables false
namespace Go.Proofs.YtkpbofnnnihbeaaGreat
open Go Go.RowKit Go.Sort Go.Maps Rw Tryz
section
variable {P : Program} {ops : Array Oper} {Q : Exit → Act → World → Prop} {md : Region.Mode} {S : World → Prop} {k : Nat}
theorem tW (i : Nat) {oi : Oper} {v : Value} {fuel : Nat} {listed : Array Bool} {a a' : Act} {w : World} (hS : S w) (hi : ops[i]? = some oi)
 (h : wpAnyL P md ops Q S k fuel (listed.setIfInBounds i true) a' w)
 (hy : ∀ w, (fun _ : World => True) w → (execOp a.eval oi).run P w = .ok (.value v) w := by intro wS _; go_simp; (try with_reducible rfl))
 (ha : a.put oi.dst v = a' := by (simp only [Act.put, pu1, pu2, pu3, pu4, pu5, pu6]; rfl))
 (hw : Region.wanted oi (yielded ops a.tmps) = true := by rfl)
 (hs : Region.noSelect ops = true := by decide +kernel) (hf : Region.free md ops listed i = true := by decide +kernel) (hr : (Region.ready md ops listed).contains i = true := by decide +kernel) (hik : i ≠ k := by decide)
 (hQ : ∀ c a w, Q (.panic c) (a.put oi.dst v) w → Q (.panic c) a w := by exact fun _ _ _ h => h) : wpAnyL P md ops Q S k (fuel + 1) listed a w := by
 subst ha
 exact tZ i v hi hy (.inr hS) h hw hs hf hr hik hQ
end
attribute [-go_sem] Instr.storeAt in
attribute [-go_sem] run_eql_struct in
theorem formed_2 (p : Dg.Pt) (R1 : Bool) (hR1 : sameP p { Dg.barePt p.kind p.id with lang := p.lang, src := p.src, dst := p.dst } = R1) (E1 : Bool) (hE1 : p.src.toList.isEmpty = E1) (k1 : (p.kind == 1) = false) (k2 : (p.kind == 2) = true) (w : World) :
  Calls Tryz.prog 61 #[.agg (Rq0 p)] w fun e w' => e = .returned (.bool (R1 && (!E1 && ((p.lang == 1) || (p.lang == 2))))) ∧ Below w.heap.size w w' := by
 have r1 := heap_alloc_new w (.cells (Rq0 p) 53)
 have hb1 := nwB w (.cells (Rq0 p) 53)
 have hmx := hmxQ
 have HR1 := hide hR1; have HE1 := hide hE1
 clear hR1 hE1
 go_enter func61, ntmps61
 go_upto_region 1 with (fail)
 generalize w.alloc (.cells (Rq0 p) 53) = w1 at *
 have hcs := jC15 r1
 have c0 := hcs.1; have c1 := hcs.2.1
 clear hcs
 have hst := store_new (ty := 53) (T := 53) w1 Rq2 (Rq7 p) (by kernel_rfl) rfl (all_oneCell_toArray (ptL.one (Dg.barePt p.kind p.id)))
 have r3 := heap_alloc_new w1 (.cells (Rq7 p) 53)
 have hbn := nwB w1 (.cells (Rq7 p) 53)
 have r12 := iNext r1 hbn
 have hb2 := bnext hb1 hbn
 have hsz := lt_of_block r1
 go_upto_region 10 with (fail)
 clear hst c1 hbn hb1 r1
 obtain ⟨b3, hb3⟩ : ∃ b3, b3 = w1.heap.size := ⟨_, rfl⟩
 have HB3 := hide hb3
 rw [← hb3] at r3 hsz ⊢
 clear hb3
 generalize w1.alloc (.cells (Rq7 p) 53) = w2 at *
 clear HB3
 clear c0
 refine wp_region_noPanic ?_
 refine wp_region_L (fun X => X.heap[w.heap.size]? = some (.cells (Rq0 p) 53 (0, 0))) 12 hmx ?_
 have hdr := (Below.refl w2.heap.size w2).drew
 have hS1 : (fun X : World => X.heap[w.heap.size]? = some (.cells (Rq0 p) 53 (0, 0))) w2.drew := iNext r12 hdr
 have q3 := iNext r3 hdr
 have qb := bnext hb2 hdr
 clear hdr r12 r3 hb2
 have r3 := q3
 have hb2 := qb
 clear q3 qb
 generalize w2.drew = u0 at *
 refine tU 0 14 hS1 rfl ?_
 refine tU 1 14 hS1 rfl ?_ (by intro wS hS; have hcs := jC15 hS; have c12 := hcs.2.2.2.2.2.2.2.2.2.2.2.2.1; have c13 := hcs.2.2.2.2.2.2.2.2.2.2.2.2.2.1; have c14 := hcs.2.2.2.2.2.2.2.2.2.2.2.2.2.2; clear hcs; go_simp; (try with_reducible rfl))
 refine tU 2 14 hS1 rfl ?_
 refine tU 3 14 hS1 rfl ?_ (by intro wS hS; have hcs := jC15 hS; have c12 := hcs.2.2.2.2.2.2.2.2.2.2.2.2.1; have c13 := hcs.2.2.2.2.2.2.2.2.2.2.2.2.2.1; have c14 := hcs.2.2.2.2.2.2.2.2.2.2.2.2.2.2; clear hcs; go_simp; (try with_reducible rfl))
 refine tU 4 14 hS1 rfl ?_
 refine tU 5 14 hS1 rfl ?_ (by intro wS hS; have hcs := jC15 hS; have c12 := hcs.2.2.2.2.2.2.2.2.2.2.2.2.1; have c13 := hcs.2.2.2.2.2.2.2.2.2.2.2.2.2.1; have c14 := hcs.2.2.2.2.2.2.2.2.2.2.2.2.2.2; clear hcs; go_simp; (try with_reducible rfl))
 refine oY 6 fun K hK => ?_
 go_simp
 refine hK.out _ _ (Or.inr hS1) ?_
 clear hK K
 try simp only [Act.put, pu]
 refine oY 7 fun K hK => ?_
 have r12 := hS1
 have hst := store_part (ty := 3) u0 b3 12 (Rq7 p) (.int .i64 p.lang) (Rq18 p) r3 (by kernel_rfl) (by show 12 + 1 ≤ 15; decide) (one_int _ _) rfl
 have q1 := (setRow_other u0 b3 w.heap.size (Rq18 p) (by omega)).trans r12
 have q3 := setRow_heap u0 b3 _ (Rq18 p) _ _ r3
 have qb := below_setRow hb2 (by omega) (g := b3) (Rq18 p)
 go_simp
 clear hS1
 clear hst r12 r3 hb2
 have r12 := q1
 have r3 := q3
 have hb2 := qb
 clear q1 q3 qb
 generalize u0.setRow b3 (Rq18 p : Array Value) = u1 at *
 have hS1 := r12
 clear r12
 refine hK.out _ _ (Or.inr hS1) ?_
 clear hK K
 try simp only [Act.put, pu]
 refine oY 8 fun K hK => ?_
 go_simp
 refine hK.out _ _ (Or.inr hS1) ?_
 clear hK K
 try simp only [Act.put, pu]
 refine oY 9 fun K hK => ?_
 have r12 := hS1
 have hst := store_part (ty := 9) u1 b3 13 (Rq18 p) (.string p.src) (Rq19 p) r3 infoStr1 (by show 13 + 1 ≤ 15; decide) (one_str _) rfl
 have q1 := (setRow_other u1 b3 w.heap.size (Rq19 p) (by omega)).trans r12
 have q3 := setRow_heap u1 b3 _ (Rq19 p) _ _ r3
 have qb := below_setRow hb2 (by omega) (g := b3) (Rq19 p)
 go_simp
 clear hS1
 clear hst r12 r3 hb2
 have r12 := q1
 have r3 := q3
 have hb2 := qb
 clear q1 q3 qb
 generalize u1.setRow b3 (Rq19 p : Array Value) = u2 at *
 have hS1 := r12
 clear r12
 refine hK.out _ _ (Or.inr hS1) ?_
 clear hK K
 try simp only [Act.put, pu]
 refine oY 10 fun K hK => ?_
 go_simp
 refine hK.out _ _ (Or.inr hS1) ?_
 clear hK K
 try simp only [Act.put, pu]
 refine oY 11 fun K hK => ?_
 have r12 := hS1
 have hst := store_part (ty := 9) u2 b3 14 (Rq19 p) (.string p.dst) (Rq20 p) r3 infoStr1 (by show 14 + 1 ≤ 15; decide) (one_str _) rfl
 have q1 := (setRow_other u2 b3 w.heap.size (Rq20 p) (by omega)).trans r12
 have q3 := setRow_heap u2 b3 _ (Rq20 p) _ _ r3
 have qb := below_setRow hb2 (by omega) (g := b3) (Rq20 p)
 go_simp
 clear hS1
 clear hst r12 r3 hb2
 have r12 := q1
 have r3 := q3
 have hb2 := qb
 clear q1 q3 qb
 generalize u2.setRow b3 (Rq20 p : Array Value) = u3 at *
 have hS1 := r12
 clear r12
 refine hK.out _ _ (Or.inr hS1) ?_
 clear hK K
 try simp only [Act.put, pu]
 refine dnY ?_
 have r12 := hS1
 clear hS1
 have hpr : ∀ w, (binOp .eql 53 (.agg (Rq0 p)) (.agg (Rq20 p))).run Tryz.prog w = .ok (.bool R1) w := fun w => by rw [← HR1.out]; exact patch_run w p { Dg.barePt p.kind p.id with lang := p.lang, src := p.src, dst := p.dst }
 have hL1 := hide (range_of r12 0 (Rq0 p) rfl)
 have hL3 := hide (range_of r3 0 (Rq20 p) rfl)
 have hcs := jC15 r12
 have c12 := hcs.2.2.2.2.2.2.2.2.2.2.2.2.1; have c13 := hcs.2.2.2.2.2.2.2.2.2.2.2.2.2.1
 clear hcs
 cases R1 with
 | false =>
  go_wp2_with (first | (with_reducible refine wpList_load_mid rfl 53 (.tmp 1) rfl w.heap.size 0 rfl _ _ hL1.out underlying53 rfl (by kernel_rfl) ?_) | (with_reducible refine wpList_load_mid rfl 53 (.tmp 3) rfl b3 0 rfl _ _ hL3.out underlying53 rfl (by kernel_rfl) ?_))
  go_ret
  exact ⟨rfl, hb2⟩
 | true =>
  cases E1 with
  | true =>
   have hs : p.src.toList = [] := List.isEmpty_iff.1 HE1.out
   go_wp2_with (first | (with_reducible refine wpList_load_mid rfl 53 (.tmp 1) rfl w.heap.size 0 rfl _ _ hL1.out underlying53 rfl (by kernel_rfl) ?_) | (with_reducible refine wpList_load_mid rfl 53 (.tmp 3) rfl b3 0 rfl _ _ hL3.out underlying53 rfl (by kernel_rfl) ?_))
   go_ret
   exact ⟨by first | rfl | simp [*], hb2⟩
  | false =>
   have he := HE1.out
   have hs : ¬ p.src.toList = [] := fun e => by rw [e] at he; cases he
   obtain ⟨g1, b1⟩ : ∃ g, (p.lang == 1) = g := ⟨_, rfl⟩
   obtain ⟨g2, b2⟩ : ∃ g, (p.lang == 2) = g := ⟨_, rfl⟩
   cases g1 with
   | true =>
    go_wp2_with (first | (with_reducible refine wpList_load_mid rfl 53 (.tmp 1) rfl w.heap.size 0 rfl _ _ hL1.out underlying53 rfl (by kernel_rfl) ?_) | (with_reducible refine wpList_load_mid rfl 53 (.tmp 3) rfl b3 0 rfl _ _ hL3.out underlying53 rfl (by kernel_rfl) ?_))
    go_ret
    exact ⟨by first | rfl | (show _ = Ending.returned (.bool _); congr 1; simp [b1, b2]), hb2⟩
   | false =>
    go_wp2_with (first | (with_reducible refine wpList_load_mid rfl 53 (.tmp 1) rfl w.heap.size 0 rfl _ _ hL1.out underlying53 rfl (by kernel_rfl) ?_) | (with_reducible refine wpList_load_mid rfl 53 (.tmp 3) rfl b3 0 rfl _ _ hL3.out underlying53 rfl (by kernel_rfl) ?_))
    go_ret
    exact ⟨by first | rfl | (show _ = Ending.returned (.bool _); congr 1; simp [b1, b2]), hb2⟩
attribute [-go_sem] Instr.storeAt in
theorem words_n (l : List Dg.It) (A : Option Addr) (n c : Nat) (hl : l.length = n) (hn : n ≤ 1048576) (p : Dg.Pt) (i : Nat) (hi : i < n) (y : Dg.It) (hy : l.getD i Dg.zeroI = y) (hlg : p.lang = 1) (htz : y.north.size ≤ 1000000) (hsz0 : p.src.size ≤ 1000000) (hdz : p.dst.size ≤ 1000000) (w : World) (hI : Its w w.heap.size A l) (hmj : MaxJ w) :
  Calls Tryz.prog 64 #[.agg (Rq5 A n c p i)] w fun e w' => ∃ v', e = .returned (.tuple #[.agg #[v'], .int .i64 (Dg.wordsP l p i y).2]) ∧ Own1 iLay 51 w' w.heap.size v' (Dg.wordsP l p i y).1 ∧ Below w.heap.size w w' := by
 have hmx := hmxQ
 have HLG := hide hlg; have HTZ := hide htz; have HSZ := hide hsz0; have HDZ := hide hdz; have HMJ := hide hmj
 clear hlg htz hsz0 hdz hmj
 obtain ⟨r1, r2, hb, hs⟩ := iAlloc2 w (.cells (Rq5 A n c p i) 143) (.cells Rq3 24)
 have hil : i < l.length := by omega
 have hyi : l[i] = y := by rw [← hy]; simp [List.getD_eq_getElem?_getD, hil]
 obtain ⟨b, off, hA⟩ := hI.some hil
 subst hA
 have hI1 := hI.below hb
 have hRI := hide (show ((w.alloc (.cells (Rq6 b off n c p i) 143)).alloc (.cells Rq3 24)).rangeAt b (off + i * 7) (Rq4 y) from its_range hI1 hil y hyi)
 have HI := hide hI1; have HL := hide hl
 clear hI hI1 hyi hil hl hy
 have hcs := jC17 r1
 have c0 := hcs.1
 have ci := hcs.2.2.2.2.2.2.2.2.2.2.2.2.2.2.2.2
 clear hcs
 have h0 : (0 : Int) ≤ (i : Int) := by omega
 have h1 : (i : Int) < (n : Int) := by omega
 go_enter func64, ntmps64
 go_upto_region 1 with (fail)
 have hsz : w.heap.size + 2 ≤ ((w.alloc (.cells (Rq6 b off n c p i) 143)).alloc (.cells Rq3 24)).heap.size := by omega
 clear hs
 generalize (w.alloc (.cells (Rq6 b off n c p i) 143)).alloc (.cells Rq3 24) = W1 at *
 have hst := store_new (ty := 51) (T := 51) W1 Rq1 (Rq4 y) (by kernel_rfl) rfl (all_oneCell_toArray (iLay.one y))
 go_upto_region 2 with (with_reducible refine wpList_load_mid rfl 51 (.tmp 13) rfl b (off + i * 7) rfl _ _ hRI.out underlying51 rfl (by kernel_rfl) ?_)
 clear hst hRI c0 ci
 have r4 := heap_alloc_new W1 (.cells (Rq4 y) 51)
 have hb2 := nwB W1 (.cells (Rq4 y) 51)
 have r12 := iNext r1 hb2
 have r22 := iNext r2 hb2
 have HI2 := hide (HI.out.below (hb2.mono (by omega)))
 have hb3 := bnext hb hb2
 have hszb := (show W1.heap.size < (W1.alloc (.cells (Rq4 y) 51)).heap.size by simp)
 obtain ⟨b4, hb4⟩ : ∃ b4, b4 = W1.heap.size := ⟨_, rfl⟩
 have HB4 := hide hb4
 rw [← hb4] at r4 hsz hszb ⊢
 clear hb hb2 r1 r2 HI hb4
 generalize W1.alloc (.cells (Rq4 y) 51) = w2 at *
 clear HB4
 have hcs := jC17 r12
 have c12 := hcs.2.2.2.2.2.2.2.2.2.2.2.2.2.1
 clear hcs
 rw [HLG.out] at c12
 have hix : (Instr.index 168 (.agg #[.pointer (some ⟨b4, 4, none⟩), .pointer (some ⟨b4, 5, none⟩)]) (.int .i64 0)).run Tryz.prog w2 = .ok (.pointer (some ⟨b4, 4, none⟩)) w2 := by kernel_rfl
 go_upto_region 3 with (fail)
 clear c12 hix
 have hsz9 : b4 < w2.heap.size := hszb
 refine wp_region_noPanic ?_
 refine wp_region_L (fun X => X.heap[w.heap.size]? = some (.cells (Rq6 b off n c p i) 143 (0, 0)) ∧ X.heap[b4]? = some (.cells (Rq4 y) 51 (0, 0))) 12 hmx ?_
 have hdr := (Below.refl w2.heap.size w2).drew
 have hS0 : (fun X => X.heap[w.heap.size]? = some (.cells (Rq6 b off n c p i) 143 (0, 0)) ∧ X.heap[b4]? = some (.cells (Rq4 y) 51 (0, 0))) w2.drew := ⟨iNext r12 hdr, iNext r4 hdr⟩
 have r22d := iNext r22 hdr
 have HI2d := hide (HI2.out.below (hdr.mono (by omega)))
 have hb3d := bnext hb3 hdr
 clear hdr r12 r22 r4 HI2 hb3 hszb hsz9
 generalize w2.drew = w3 at *
 have HMK := hide (HMJ.out.next hb3d)
 have hS1 := hS0
 refine tU 0 14 hS1 rfl ?_
 refine tU 1 14 hS1 rfl ?_
 refine tU 2 14 hS1 rfl ?_ (by intro wS hS; obtain ⟨z0, z1, z2, z3, z4, z5, z6⟩ := iCells hS.2; go_simp; (try with_reducible rfl))
 refine tU 3 14 hS1 rfl ?_
 refine tU 4 14 hS1 rfl ?_
 refine tU 5 14 hS1 rfl ?_ (by intro wS hS; have hcs := jC17 hS.1; have c14 := hcs.2.2.2.2.2.2.2.2.2.2.2.2.2.2.1; clear hcs; go_simp; (try with_reducible rfl))
 refine oY 6 fun K hK => ?_
 go_simp
 refine (oncew_of y.north p.src HTZ.out w3 HMK.out).mono ?_
 rintro e w4 ⟨rfl, rfl⟩
 refine hK.out _ _ (Or.inr hS1) ?_
 clear hK K
 try simp only [Act.put, pu]
 refine tU 7 14 hS1 rfl ?_
 refine tU 8 14 hS1 rfl ?_
 refine tU 9 14 hS1 rfl ?_
 refine tU 10 14 hS1 rfl ?_
 refine tU 11 14 hS1 rfl ?_
 refine dnY ?_
 obtain ⟨r12, r4⟩ := hS0
 clear hS1
 obtain ⟨q, hq⟩ : ∃ q, Dg.onceB y.north p.src = q := ⟨_, rfl⟩
 rw [hq]
 have HQ := hide hq
 clear hq
 cases q with
 | false =>
  have hwd : Dg.wordsP l p i y = ([], 15) := by
   unfold Dg.wordsP
   rw [HLG.out]
   exact if_pos HQ.out
  have HWD := hide hwd
  clear hwd
  have hst := store_part (ty := 24) w4 (w.heap.size + 1) 0 Rq3 (.agg Rq3) Rq3 r22d infoCode1 (Nat.le_refl _) (one_code _ _ _) rfl
  have r25 := setRow_heap w4 (w.heap.size + 1) _ Rq3 _ _ r22d
  have hb8 := below_setRow hb3d (by omega) (g := w.heap.size + 1) Rq3
  clear r12 r4 r22d HI2d hb3d
  go_wp2
  refine bodyPost_ret (results_c8 results64 _ _ (w.heap.size + 1) 24 #[.slice none 0 0] (0, 0) _ rfl r25 underlying24 (by kernel_rfl)) rfl ⟨.slice none 0 0, ?_, ?_, hb8⟩
  ·rw [HWD.out]
   rfl
  ·rw [HWD.out]
   exact Own1.nil _ _ _ _
 | true =>
  obtain ⟨K, hK⟩ : ∃ K : Nat, Lib.index y.north.data.toList p.src.data.toList = (K : Int) := ⟨(Lib.index y.north.data.toList p.src.data.toList).toNat, (Int.toNat_of_nonneg (of_decide_eq_true HQ.out).1).symm⟩
  have hKr : K + p.src.size ≤ y.north.size := by
   have := Lib.index_room y.north.data.toList p.src.data.toList (by omega)
   rw [hK] at this
   simp only [Array.length_toList] at this
   have e1 : p.src.data.size = p.src.size := rfl
   have e2 : y.north.data.size = y.north.size := rfl
   omega
  rw [hK]
  obtain ⟨W, hW⟩ : ∃ W, Dg.wordT y.north p.src p.dst = W := ⟨_, rfl⟩
  have hW2 : W = y.north.extract 0 K ++ p.dst ++ y.north.extract (K + p.src.size) y.north.size := by
   rw [← hW]
   unfold Dg.wordT
   rw [hK, Int.toNat_natCast]
  have HK := hide hK; have HKR := hide hKr; have HW := hide hW; have HW2 := hide hW2
  clear hK hKr hW hW2
  obtain ⟨E, hE⟩ : ∃ E : Nat, K + p.src.size = E := ⟨_, rfl⟩
  have hw2 := HW2.out
  have hkr := HKR.out
  rw [hE] at hw2 hkr
  have k0 : (0 : Int) ≤ (K : Int) := by omega
  have k1 : (K : Int) ≤ (y.north.size : Int) := by omega
  have k2 : (E : Int) ≤ (y.north.size : Int) := by omega
  have k3 : (0 : Int) ≤ (E : Int) := by omega
  have kw : IntKind.i64.wrap ((K : Int) + (p.src.size : Int)) = (E : Int) := by
   rw [show (K : Int) + (p.src.size : Int) = (E : Int) by omega]
   exact IntWalk.i64_in _ (by have := HTZ.out; omega)
  have ks1 : ¬ 9223372036854775807 < min K y.north.size + p.dst.size := by have := HTZ.out; have := HDZ.out; omega
  have ks2 : ¬ 9223372036854775807 < min K y.north.size + p.dst.size + (y.north.size - E) := by have := HTZ.out; have := HDZ.out; omega
  have HW3 := hide hw2
  clear hw2 hkr hE HW2 HKR
  go_upto_region 6 with (fail)
  refine wp_region_noPanic ?_
  refine wp_region_L (fun X => X.heap[w.heap.size]? = some (.cells (Rq6 b off n c p i) 143 (0, 0)) ∧ X.heap[b4]? = some (.cells (Rq4 y) 51 (0, 0))) 22 hmx ?_
  have hdr := (Below.refl w4.heap.size w4).drew
  have hS1 : (fun X => X.heap[w.heap.size]? = some (.cells (Rq6 b off n c p i) 143 (0, 0)) ∧ X.heap[b4]? = some (.cells (Rq4 y) 51 (0, 0))) w4.drew := ⟨iNext r12 hdr, iNext r4 hdr⟩
  have hszb := lt_of_block r4
  have r22 := iNext r22d hdr
  have HI2 := hide (HI2d.out.below (hdr.mono (by omega)))
  have hb3 := bnext hb3d hdr
  clear hdr r12 r4 r22d HI2d hb3d hszb
  generalize w4.drew = w5 at *
  refine tU 0 25 hS1 rfl ?_
  refine tU 1 25 hS1 rfl ?_
  refine tU 2 25 hS1 rfl ?_
  refine tU 3 25 hS1 rfl ?_ (by intro wS hS; obtain ⟨z0, z1, z2, z3, z4, z5, z6⟩ := iCells hS.2; go_simp; (try with_reducible rfl))
  refine tU 4 25 hS1 rfl ?_
  refine tU 5 25 hS1 rfl ?_
  refine tU 6 25 hS1 rfl ?_
  refine tU 7 25 hS1 rfl ?_
  refine tU 8 25 hS1 rfl ?_ (by intro wS hS; have hcs := jC17 hS.1; have c15 := hcs.2.2.2.2.2.2.2.2.2.2.2.2.2.2.2.1; clear hcs; go_simp; (try with_reducible rfl))
  refine tU 9 25 hS1 rfl ?_
  refine tU 10 25 hS1 rfl ?_
  refine tU 11 25 hS1 rfl ?_
  refine tU 12 25 hS1 rfl ?_ (by intro wS hS; obtain ⟨z0, z1, z2, z3, z4, z5, z6⟩ := iCells hS.2; go_simp; (try with_reducible rfl))
  refine tU 13 25 hS1 rfl ?_
  refine tU 14 25 hS1 rfl ?_
  refine tU 15 25 hS1 rfl ?_
  refine tU 16 25 hS1 rfl ?_ (by intro wS hS; have hcs := jC17 hS.1; have c14 := hcs.2.2.2.2.2.2.2.2.2.2.2.2.2.2.1; clear hcs; go_simp; (try with_reducible rfl))
  refine tU 17 25 hS1 rfl ?_
  refine tU 18 25 hS1 rfl ?_
  refine tU 19 25 hS1 rfl ?_
  refine tU 20 25 hS1 rfl ?_
  refine tU 21 25 hS1 rfl ?_
  refine oY 22 fun K hK => ?_
  rw [← HW3.out]
  obtain ⟨r12, r4⟩ := hS1
  have hst := store_part (ty := 9) w5 b4 4 (Rq4 y) (.string W) #[.int .i64 y.kind, .string y.id, .string y.parent, .string y.number, .string W, .string y.south, .bool y.gone] r4 infoStr1 (by show 4 + 1 ≤ 7; decide) (one_str _) rfl
  have r13 : (w5.setRow b4 #[.int .i64 y.kind, .string y.id, .string y.parent, .string y.number, .string W, .string y.south, .bool y.gone]).heap[w.heap.size]? = some (.cells (Rq6 b off n c p i) 143 (0, 0)) := (setRow_other w5 b4 _ _ (by omega)).trans r12
  have r23 : (w5.setRow b4 #[.int .i64 y.kind, .string y.id, .string y.parent, .string y.number, .string W, .string y.south, .bool y.gone]).heap[w.heap.size + 1]? = some (.cells Rq3 24 (0, 0)) := (setRow_other w5 b4 _ _ (by omega)).trans r22
  have r43 := setRow_heap w5 b4 _ #[.int .i64 y.kind, .string y.id, .string y.parent, .string y.number, .string W, .string y.south, .bool y.gone] _ _ r4
  have HI3 := hide (its_other HI2.out (g := b4) (by omega) #[.int .i64 y.kind, .string y.id, .string y.parent, .string y.number, .string W, .string y.south, .bool y.gone])
  have hb5 := below_setRow hb3 (by omega) (g := b4) #[.int .i64 y.kind, .string y.id, .string y.parent, .string y.number, .string W, .string y.south, .bool y.gone]
  go_simp
  clear hst r12 r22 r4 HI2 hb3
  refine hK.out _ _ (Or.inl rfl) ?_
  clear hK K
  try simp only [Act.put, pu]
  refine dnY ?_
  generalize w5.setRow b4 #[.int .i64 y.kind, .string y.id, .string y.parent, .string y.number, .string W, .string y.south, .bool y.gone] = w6 at *
  clear k0 k1 k2 k3 kw ks1 ks2 HMK HMJ
  have hwd : Dg.wordsP l p i y = if 400 < W.size then ([], 2) else (l.set i { y with north := W }, 0) := by
   unfold Dg.wordsP
   rw [HLG.out]
   show (if Dg.onceB y.north p.src = false then _ else if 400 < (Dg.wordT y.north p.src p.dst).size then _ else (l.set i { y with north := Dg.wordT y.north p.src p.dst }, (0 : Int))) = _
   rw [HW.out, if_neg (by rw [HQ.out]; decide)]
  have HWD := hide hwd
  clear hwd
  obtain ⟨z0, z1, z2, z3, z4, z5, z6⟩ := iCells r43
  by_cases hN : (400 : Int) < (W.size : Int)
  ·have hwd := HWD.out
   rw [if_pos (show 400 < W.size by omega)] at hwd
   have HWD2 := hide hwd
   clear hwd HWD
   have hst := store_part (ty := 24) w6 (w.heap.size + 1) 0 Rq3 (.agg Rq3) Rq3 r23 infoCode1 (Nat.le_refl _) (one_code _ _ _) rfl
   have r25 := setRow_heap w6 (w.heap.size + 1) _ Rq3 _ _ r23
   have hb8 := below_setRow hb5 (by omega) (g := w.heap.size + 1) Rq3
   clear r13 r23 r43 HI3 hb5
   go_wp2
   refine bodyPost_ret (results_c8 results64 _ _ (w.heap.size + 1) 24 #[.slice none 0 0] (0, 0) _ rfl r25 underlying24 (by kernel_rfl)) rfl ⟨.slice none 0 0, ?_, ?_, hb8⟩
   ·rw [HWD2.out]
    rfl
   ·rw [HWD2.out]
    exact Own1.nil _ _ _ _
  ·have hwd := HWD.out
   rw [if_neg (show ¬ 400 < W.size by omega)] at hwd
   have HWD2 := hide hwd
   clear hwd HWD
   go_upto_region 9 with (fail)
   clear z0 z1 z2 z3 z4 z5 z6
   have hR17 := hide (range_of r13 0 (Rq6 b off n c p i) rfl)
   have hR7 := hide (range_of r43 0 [.int .i64 y.kind, .string y.id, .string y.parent, .string y.number, .string W, .string y.south, .bool y.gone] rfl)
   go_wp2_with (first | (with_reducible refine wpList_load_mid rfl 143 (.tmp 1) rfl w.heap.size 0 rfl _ _ hR17.out underlying143 rfl (by kernel_rfl) ?_) | (with_reducible refine wpList_load_mid rfl 51 (.tmp 4) rfl b4 0 rfl _ _ hR7.out underlying51 rfl (by kernel_rfl) ?_))
   refine (with_of l (some ⟨b, off, none⟩) n c HL.out hn p i hi { y with north := W } w6 (HI3.out.more hb5.size)).mono ?_
   rintro e w4 ⟨v', rfl, hO, hb6⟩
   have hl3 := lt_of_block r43
   clear hR17 hR7 r13 r43
   obtain ⟨A', c', rfl, _, _⟩ := hO.row
   obtain ⟨m', hm'⟩ : ∃ m', (l.set i { y with north := W }).length = m' := ⟨_, rfl⟩
   rw [hm'] at hO ⊢
   clear hm'
   have r24 := iNext r23 hb6
   have hb7 := bnext hb5 hb6
   have hst := store_part (ty := 24) w4 (w.heap.size + 1) 0 Rq3 (.agg #[.slice A' m' c']) #[.slice A' m' c'] r24 infoCode1 (Nat.le_refl _) (one_code _ _ _) rfl
   have r25 := setRow_heap w4 (w.heap.size + 1) _ #[.slice A' m' c'] _ _ r24
   have hb8 := below_setRow hb7 (by omega) (g := w.heap.size + 1) #[.slice A' m' c']
   have HO2 := hide (own_other hO (g := w.heap.size + 1) (fun e => by have := (World.ownsRow.lt hO _ e).1; omega) #[.slice A' m' c'])
   clear hO hb6 hb7 r23 r24
   go_wp2
   refine bodyPost_ret (results_c8 results64 _ _ (w.heap.size + 1) 24 #[.slice A' m' c'] (0, 0) _ rfl r25 underlying24 (by kernel_rfl)) rfl ⟨.slice A' m' c', by rw [HWD2.out]; rfl, by rw [HWD2.out]; exact own_weak HO2.out (by omega), hb8⟩
attribute [-go_sem] Instr.storeAt in
theorem words_s (l : List Dg.It) (A : Option Addr) (n c : Nat) (hl : l.length = n) (hn : n ≤ 1048576) (p : Dg.Pt) (i : Nat) (hi : i < n) (y : Dg.It) (hy : l.getD i Dg.zeroI = y) (hlg : p.lang = 2) (htz : y.south.size ≤ 1000000) (hsz0 : p.src.size ≤ 1000000) (hdz : p.dst.size ≤ 1000000) (w : World) (hI : Its w w.heap.size A l) (hmj : MaxJ w) :
  Calls Tryz.prog 64 #[.agg (Rq5 A n c p i)] w fun e w' => ∃ v', e = .returned (.tuple #[.agg #[v'], .int .i64 (Dg.wordsP l p i y).2]) ∧ Own1 iLay 51 w' w.heap.size v' (Dg.wordsP l p i y).1 ∧ Below w.heap.size w w' := by
 have hmx := hmxQ
 have HLG := hide hlg; have HTZ := hide htz; have HSZ := hide hsz0; have HDZ := hide hdz; have HMJ := hide hmj
 clear hlg htz hsz0 hdz hmj
 obtain ⟨r1, r2, hb, hs⟩ := iAlloc2 w (.cells (Rq5 A n c p i) 143) (.cells Rq3 24)
 have hil : i < l.length := by omega
 have hyi : l[i] = y := by rw [← hy]; simp [List.getD_eq_getElem?_getD, hil]
 obtain ⟨b, off, hA⟩ := hI.some hil
 subst hA
 have hI1 := hI.below hb
 have hRI := hide (show ((w.alloc (.cells (Rq6 b off n c p i) 143)).alloc (.cells Rq3 24)).rangeAt b (off + i * 7) (Rq4 y) from its_range hI1 hil y hyi)
 have HI := hide hI1; have HL := hide hl
 clear hI hI1 hyi hil hl hy
 have hcs := jC17 r1
 have c0 := hcs.1
 have ci := hcs.2.2.2.2.2.2.2.2.2.2.2.2.2.2.2.2
 clear hcs
 have h0 : (0 : Int) ≤ (i : Int) := by omega
 have h1 : (i : Int) < (n : Int) := by omega
 go_enter func64, ntmps64
 go_upto_region 1 with (fail)
 have hsz : w.heap.size + 2 ≤ ((w.alloc (.cells (Rq6 b off n c p i) 143)).alloc (.cells Rq3 24)).heap.size := by omega
 clear hs
 generalize (w.alloc (.cells (Rq6 b off n c p i) 143)).alloc (.cells Rq3 24) = W1 at *
 have hst := store_new (ty := 51) (T := 51) W1 Rq1 (Rq4 y) (by kernel_rfl) rfl (all_oneCell_toArray (iLay.one y))
 go_upto_region 2 with (with_reducible refine wpList_load_mid rfl 51 (.tmp 13) rfl b (off + i * 7) rfl _ _ hRI.out underlying51 rfl (by kernel_rfl) ?_)
 clear hst hRI c0 ci
 have r4 := heap_alloc_new W1 (.cells (Rq4 y) 51)
 have hb2 := nwB W1 (.cells (Rq4 y) 51)
 have r12 := iNext r1 hb2
 have r22 := iNext r2 hb2
 have HI2 := hide (HI.out.below (hb2.mono (by omega)))
 have hb3 := bnext hb hb2
 have hszb := (show W1.heap.size < (W1.alloc (.cells (Rq4 y) 51)).heap.size by simp)
 obtain ⟨b4, hb4⟩ : ∃ b4, b4 = W1.heap.size := ⟨_, rfl⟩
 have HB4 := hide hb4
 rw [← hb4] at r4 hsz hszb ⊢
 clear hb hb2 r1 r2 HI hb4
 generalize W1.alloc (.cells (Rq4 y) 51) = w2 at *
 clear HB4
 have hcs := jC17 r12
 have c12 := hcs.2.2.2.2.2.2.2.2.2.2.2.2.2.1
 clear hcs
 rw [HLG.out] at c12
 have hix : (Instr.index 168 (.agg #[.pointer (some ⟨b4, 4, none⟩), .pointer (some ⟨b4, 5, none⟩)]) (.int .i64 1)).run Tryz.prog w2 = .ok (.pointer (some ⟨b4, 5, none⟩)) w2 := by kernel_rfl
 go_upto_region 3 with (fail)
 clear c12 hix
 have hsz9 : b4 < w2.heap.size := hszb
 refine wp_region_noPanic ?_
 refine wp_region_L (fun X => X.heap[w.heap.size]? = some (.cells (Rq6 b off n c p i) 143 (0, 0)) ∧ X.heap[b4]? = some (.cells (Rq4 y) 51 (0, 0))) 12 hmx ?_
 have hdr := (Below.refl w2.heap.size w2).drew
 have hS0 : (fun X => X.heap[w.heap.size]? = some (.cells (Rq6 b off n c p i) 143 (0, 0)) ∧ X.heap[b4]? = some (.cells (Rq4 y) 51 (0, 0))) w2.drew := ⟨iNext r12 hdr, iNext r4 hdr⟩
 have r22d := iNext r22 hdr
 have HI2d := hide (HI2.out.below (hdr.mono (by omega)))
 have hb3d := bnext hb3 hdr
 clear hdr r12 r22 r4 HI2 hb3 hszb hsz9
 generalize w2.drew = w3 at *
 have HMK := hide (HMJ.out.next hb3d)
 have hS1 := hS0
 refine tU 0 14 hS1 rfl ?_
 refine tU 1 14 hS1 rfl ?_
 refine tU 2 14 hS1 rfl ?_ (by intro wS hS; obtain ⟨z0, z1, z2, z3, z4, z5, z6⟩ := iCells hS.2; go_simp; (try with_reducible rfl))
 refine tU 3 14 hS1 rfl ?_
 refine tU 4 14 hS1 rfl ?_
 refine tU 5 14 hS1 rfl ?_ (by intro wS hS; have hcs := jC17 hS.1; have c14 := hcs.2.2.2.2.2.2.2.2.2.2.2.2.2.2.1; clear hcs; go_simp; (try with_reducible rfl))
 refine oY 6 fun K hK => ?_
 go_simp
 refine (oncew_of y.south p.src HTZ.out w3 HMK.out).mono ?_
 rintro e w4 ⟨rfl, rfl⟩
 refine hK.out _ _ (Or.inr hS1) ?_
 clear hK K
 try simp only [Act.put, pu]
 refine tU 7 14 hS1 rfl ?_
 refine tU 8 14 hS1 rfl ?_
 refine tU 9 14 hS1 rfl ?_
 refine tU 10 14 hS1 rfl ?_
 refine tU 11 14 hS1 rfl ?_
 refine dnY ?_
 obtain ⟨r12, r4⟩ := hS0
 clear hS1
 obtain ⟨q, hq⟩ : ∃ q, Dg.onceB y.south p.src = q := ⟨_, rfl⟩
 rw [hq]
 have HQ := hide hq
 clear hq
 cases q with
 | false =>
  have hwd : Dg.wordsP l p i y = ([], 15) := by
   unfold Dg.wordsP
   rw [HLG.out]
   exact if_pos HQ.out
  have HWD := hide hwd
  clear hwd
  have hst := store_part (ty := 24) w4 (w.heap.size + 1) 0 Rq3 (.agg Rq3) Rq3 r22d infoCode1 (Nat.le_refl _) (one_code _ _ _) rfl
  have r25 := setRow_heap w4 (w.heap.size + 1) _ Rq3 _ _ r22d
  have hb8 := below_setRow hb3d (by omega) (g := w.heap.size + 1) Rq3
  clear r12 r4 r22d HI2d hb3d
  go_wp2
  refine bodyPost_ret (results_c8 results64 _ _ (w.heap.size + 1) 24 #[.slice none 0 0] (0, 0) _ rfl r25 underlying24 (by kernel_rfl)) rfl ⟨.slice none 0 0, ?_, ?_, hb8⟩
  ·rw [HWD.out]
   rfl
  ·rw [HWD.out]
   exact Own1.nil _ _ _ _
 | true =>
  obtain ⟨K, hK⟩ : ∃ K : Nat, Lib.index y.south.data.toList p.src.data.toList = (K : Int) := ⟨(Lib.index y.south.data.toList p.src.data.toList).toNat, (Int.toNat_of_nonneg (of_decide_eq_true HQ.out).1).symm⟩
  have hKr : K + p.src.size ≤ y.south.size := by
   have := Lib.index_room y.south.data.toList p.src.data.toList (by omega)
   rw [hK] at this
   simp only [Array.length_toList] at this
   have e1 : p.src.data.size = p.src.size := rfl
   have e2 : y.south.data.size = y.south.size := rfl
   omega
  rw [hK]
  obtain ⟨W, hW⟩ : ∃ W, Dg.wordT y.south p.src p.dst = W := ⟨_, rfl⟩
  have hW2 : W = y.south.extract 0 K ++ p.dst ++ y.south.extract (K + p.src.size) y.south.size := by
   rw [← hW]
   unfold Dg.wordT
   rw [hK, Int.toNat_natCast]
  have HK := hide hK; have HKR := hide hKr; have HW := hide hW; have HW2 := hide hW2
  clear hK hKr hW hW2
  obtain ⟨E, hE⟩ : ∃ E : Nat, K + p.src.size = E := ⟨_, rfl⟩
  have hw2 := HW2.out
  have hkr := HKR.out
  rw [hE] at hw2 hkr
  have k0 : (0 : Int) ≤ (K : Int) := by omega
  have k1 : (K : Int) ≤ (y.south.size : Int) := by omega
  have k2 : (E : Int) ≤ (y.south.size : Int) := by omega
  have k3 : (0 : Int) ≤ (E : Int) := by omega
  have kw : IntKind.i64.wrap ((K : Int) + (p.src.size : Int)) = (E : Int) := by
   rw [show (K : Int) + (p.src.size : Int) = (E : Int) by omega]
   exact IntWalk.i64_in _ (by have := HTZ.out; omega)
  have ks1 : ¬ 9223372036854775807 < min K y.south.size + p.dst.size := by have := HTZ.out; have := HDZ.out; omega
  have ks2 : ¬ 9223372036854775807 < min K y.south.size + p.dst.size + (y.south.size - E) := by have := HTZ.out; have := HDZ.out; omega
  have HW3 := hide hw2
  clear hw2 hkr hE HW2 HKR
  go_upto_region 6 with (fail)
  refine wp_region_noPanic ?_
  refine wp_region_L (fun X => X.heap[w.heap.size]? = some (.cells (Rq6 b off n c p i) 143 (0, 0)) ∧ X.heap[b4]? = some (.cells (Rq4 y) 51 (0, 0))) 22 hmx ?_
  have hdr := (Below.refl w4.heap.size w4).drew
  have hS1 : (fun X => X.heap[w.heap.size]? = some (.cells (Rq6 b off n c p i) 143 (0, 0)) ∧ X.heap[b4]? = some (.cells (Rq4 y) 51 (0, 0))) w4.drew := ⟨iNext r12 hdr, iNext r4 hdr⟩
  have hszb := lt_of_block r4
  have r22 := iNext r22d hdr
  have HI2 := hide (HI2d.out.below (hdr.mono (by omega)))
  have hb3 := bnext hb3d hdr
  clear hdr r12 r4 r22d HI2d hb3d hszb
  generalize w4.drew = w5 at *
  refine tU 0 25 hS1 rfl ?_
  refine tU 1 25 hS1 rfl ?_
  refine tU 2 25 hS1 rfl ?_
  refine tU 3 25 hS1 rfl ?_ (by intro wS hS; obtain ⟨z0, z1, z2, z3, z4, z5, z6⟩ := iCells hS.2; go_simp; (try with_reducible rfl))
  refine tU 4 25 hS1 rfl ?_
  refine tU 5 25 hS1 rfl ?_
  refine tU 6 25 hS1 rfl ?_
  refine tU 7 25 hS1 rfl ?_
  refine tU 8 25 hS1 rfl ?_ (by intro wS hS; have hcs := jC17 hS.1; have c15 := hcs.2.2.2.2.2.2.2.2.2.2.2.2.2.2.2.1; clear hcs; go_simp; (try with_reducible rfl))
  refine tU 9 25 hS1 rfl ?_
  refine tU 10 25 hS1 rfl ?_
  refine tU 11 25 hS1 rfl ?_
  refine tU 12 25 hS1 rfl ?_ (by intro wS hS; obtain ⟨z0, z1, z2, z3, z4, z5, z6⟩ := iCells hS.2; go_simp; (try with_reducible rfl))
  refine tU 13 25 hS1 rfl ?_
  refine tU 14 25 hS1 rfl ?_
  refine tU 15 25 hS1 rfl ?_
  refine tU 16 25 hS1 rfl ?_ (by intro wS hS; have hcs := jC17 hS.1; have c14 := hcs.2.2.2.2.2.2.2.2.2.2.2.2.2.2.1; clear hcs; go_simp; (try with_reducible rfl))
  refine tU 17 25 hS1 rfl ?_
  refine tU 18 25 hS1 rfl ?_
  refine tU 19 25 hS1 rfl ?_
  refine tU 20 25 hS1 rfl ?_
  refine tU 21 25 hS1 rfl ?_
  refine oY 22 fun K hK => ?_
  rw [← HW3.out]
  obtain ⟨r12, r4⟩ := hS1
  have hst := store_part (ty := 9) w5 b4 5 (Rq4 y) (.string W) #[.int .i64 y.kind, .string y.id, .string y.parent, .string y.number, .string y.north, .string W, .bool y.gone] r4 infoStr1 (by show 5 + 1 ≤ 7; decide) (one_str _) rfl
  have r13 : (w5.setRow b4 #[.int .i64 y.kind, .string y.id, .string y.parent, .string y.number, .string y.north, .string W, .bool y.gone]).heap[w.heap.size]? = some (.cells (Rq6 b off n c p i) 143 (0, 0)) := (setRow_other w5 b4 _ _ (by omega)).trans r12
  have r23 : (w5.setRow b4 #[.int .i64 y.kind, .string y.id, .string y.parent, .string y.number, .string y.north, .string W, .bool y.gone]).heap[w.heap.size + 1]? = some (.cells Rq3 24 (0, 0)) := (setRow_other w5 b4 _ _ (by omega)).trans r22
  have r43 := setRow_heap w5 b4 _ #[.int .i64 y.kind, .string y.id, .string y.parent, .string y.number, .string y.north, .string W, .bool y.gone] _ _ r4
  have HI3 := hide (its_other HI2.out (g := b4) (by omega) #[.int .i64 y.kind, .string y.id, .string y.parent, .string y.number, .string y.north, .string W, .bool y.gone])
  have hb5 := below_setRow hb3 (by omega) (g := b4) #[.int .i64 y.kind, .string y.id, .string y.parent, .string y.number, .string y.north, .string W, .bool y.gone]
  go_simp
  clear hst r12 r22 r4 HI2 hb3
  refine hK.out _ _ (Or.inl rfl) ?_
  clear hK K
  try simp only [Act.put, pu]
  refine dnY ?_
  generalize w5.setRow b4 #[.int .i64 y.kind, .string y.id, .string y.parent, .string y.number, .string y.north, .string W, .bool y.gone] = w6 at *
  clear k0 k1 k2 k3 kw ks1 ks2 HMK HMJ
  have hwd : Dg.wordsP l p i y = if 400 < W.size then ([], 2) else (l.set i { y with south := W }, 0) := by
   unfold Dg.wordsP
   rw [HLG.out]
   show (if Dg.onceB y.south p.src = false then _ else if 400 < (Dg.wordT y.south p.src p.dst).size then _ else (l.set i { y with south := Dg.wordT y.south p.src p.dst }, (0 : Int))) = _
   rw [HW.out, if_neg (by rw [HQ.out]; decide)]
  have HWD := hide hwd
  clear hwd
  obtain ⟨z0, z1, z2, z3, z4, z5, z6⟩ := iCells r43
  by_cases hN : (400 : Int) < (W.size : Int)
  ·have hwd := HWD.out
   rw [if_pos (show 400 < W.size by omega)] at hwd
   have HWD2 := hide hwd
   clear hwd HWD
   have hst := store_part (ty := 24) w6 (w.heap.size + 1) 0 Rq3 (.agg Rq3) Rq3 r23 infoCode1 (Nat.le_refl _) (one_code _ _ _) rfl
   have r25 := setRow_heap w6 (w.heap.size + 1) _ Rq3 _ _ r23
   have hb8 := below_setRow hb5 (by omega) (g := w.heap.size + 1) Rq3
   clear r13 r23 r43 HI3 hb5
   go_wp2
   refine bodyPost_ret (results_c8 results64 _ _ (w.heap.size + 1) 24 #[.slice none 0 0] (0, 0) _ rfl r25 underlying24 (by kernel_rfl)) rfl ⟨.slice none 0 0, ?_, ?_, hb8⟩
   ·rw [HWD2.out]
    rfl
   ·rw [HWD2.out]
    exact Own1.nil _ _ _ _
  ·have hwd := HWD.out
   rw [if_neg (show ¬ 400 < W.size by omega)] at hwd
   have HWD2 := hide hwd
   clear hwd HWD
   go_upto_region 9 with (fail)
   clear z0 z1 z2 z3 z4 z5 z6
   have hR17 := hide (range_of r13 0 (Rq6 b off n c p i) rfl)
   have hR7 := hide (range_of r43 0 [.int .i64 y.kind, .string y.id, .string y.parent, .string y.number, .string y.north, .string W, .bool y.gone] rfl)
   go_wp2_with (first | (with_reducible refine wpList_load_mid rfl 143 (.tmp 1) rfl w.heap.size 0 rfl _ _ hR17.out underlying143 rfl (by kernel_rfl) ?_) | (with_reducible refine wpList_load_mid rfl 51 (.tmp 4) rfl b4 0 rfl _ _ hR7.out underlying51 rfl (by kernel_rfl) ?_))
   refine (with_of l (some ⟨b, off, none⟩) n c HL.out hn p i hi { y with south := W } w6 (HI3.out.more hb5.size)).mono ?_
   rintro e w4 ⟨v', rfl, hO, hb6⟩
   have hl3 := lt_of_block r43
   clear hR17 hR7 r13 r43
   obtain ⟨A', c', rfl, _, _⟩ := hO.row
   obtain ⟨m', hm'⟩ : ∃ m', (l.set i { y with south := W }).length = m' := ⟨_, rfl⟩
   rw [hm'] at hO ⊢
   clear hm'
   have r24 := iNext r23 hb6
   have hb7 := bnext hb5 hb6
   have hst := store_part (ty := 24) w4 (w.heap.size + 1) 0 Rq3 (.agg #[.slice A' m' c']) #[.slice A' m' c'] r24 infoCode1 (Nat.le_refl _) (one_code _ _ _) rfl
   have r25 := setRow_heap w4 (w.heap.size + 1) _ #[.slice A' m' c'] _ _ r24
   have hb8 := below_setRow hb7 (by omega) (g := w.heap.size + 1) #[.slice A' m' c']
   have HO2 := hide (own_other hO (g := w.heap.size + 1) (fun e => by have := (World.ownsRow.lt hO _ e).1; omega) #[.slice A' m' c'])
   clear hO hb6 hb7 r23 r24
   go_wp2
   refine bodyPost_ret (results_c8 results64 _ _ (w.heap.size + 1) 24 #[.slice A' m' c'] (0, 0) _ rfl r25 underlying24 (by kernel_rfl)) rfl ⟨.slice A' m' c', by rw [HWD2.out]; rfl, by rw [HWD2.out]; exact own_weak HO2.out (by omega), hb8⟩
theorem formedw_of (p : Dg.Pt) (h2 : p.kind = 2) (R : Bool) (hR : Dg.formed2 p = R) (w : World) :
  Calls Tryz.prog 61 #[.agg (Rq0 p)] w fun e w' => e = .returned (.bool R) ∧ Below w.heap.size w w' := by
 have hq : (!p.src.toList.isEmpty) = !decide (p.src = Dg.nil8) := by
  congr 1
  rw [Bool.eq_iff_iff, List.isEmpty_iff, decide_eq_true_iff]
  constructor
  ·intro h
   rw [ByteArray.toList_eq] at h
   exact ByteArray.ext (Array.toList_inj.1 h)
  ·intro h
   rw [h, ByteArray.toList_eq]
   rfl
 have hR2 : (sameP p { Dg.barePt p.kind p.id with lang := p.lang, src := p.src, dst := p.dst } && (!p.src.toList.isEmpty && ((p.lang == 1) || (p.lang == 2)))) = R := by
  rw [← hR]
  unfold Dg.formed2
  rw [← sameP_dec, hq]
  congr 1
  congr 1
  rw [Bool.decide_or]
  rfl
 rw [← hR2]
 exact formed_2 p _ rfl _ rfl (beq_eq_false_iff_ne.2 (by rw [h2]; decide)) (beq_iff_eq.2 h2) w
theorem words_of (l : List Dg.It) (A : Option Addr) (n c : Nat) (hl : l.length = n) (hn : n ≤ 1048576) (p : Dg.Pt) (i : Nat) (hi : i < n) (y : Dg.It) (hy : l.getD i Dg.zeroI = y) (hlg : p.lang = 1 ∨ p.lang = 2) (htz : y.north.size ≤ 1000000 ∧ y.south.size ≤ 1000000) (hsz0 : p.src.size ≤ 1000000) (hdz : p.dst.size ≤ 1000000) (w : World) (hI : Its w w.heap.size A l) (hmj : MaxJ w) :
  Calls Tryz.prog 64 #[.agg (Rq5 A n c p i)] w fun e w' => ∃ v', e = .returned (.tuple #[.agg #[v'], .int .i64 (Dg.wordsP l p i y).2]) ∧ Own1 iLay 51 w' w.heap.size v' (Dg.wordsP l p i y).1 ∧ Below w.heap.size w w' := by
 rcases hlg with hlg | hlg
 ·exact words_n l A n c hl hn p i hi y hy hlg htz.1 hsz0 hdz w hI hmj
 ·exact words_s l A n c hl hn p i hi y hy hlg htz.2 hsz0 hdz w hI hmj
attribute [-go_sem] Instr.storeAt in
theorem applyw_inv (l : List Dg.It) (A : Option Addr) (n c : Nat) (hl : l.length = n) (hn : n ≤ 1048576) (hw : ∀ x ∈ l, ItW x) (p : Dg.Pt) (hp : PtW p) (h2 : p.kind = 2) (hv : Dg.validC l = false)  (w : World) (hI : Its w w.heap.size A l) :
  Calls Tryz.prog 34 #[.agg #[.slice A n c], .agg (Rq0 p)] w (ApR ([], 1) w) := by
 obtain ⟨r1, r2, r3, hb1, hs⟩ := iAlloc3 w (.cells #[.slice A n c] 24) (.cells (Rq0 p) 53) (.cells Rq3 24)
 have hS1 : ApS w.heap.size A n c l p (((w.alloc (.cells #[.slice A n c] 24)).alloc (.cells (Rq0 p) 53)).alloc (.cells Rq3 24)) := ⟨r1, r2, r3, hI.keep hb1⟩
 have hmx := hmxQ
 have HS := hide hs; have HL := hide hl; have HW := hide hw; have HP := hide hp; have H2 := hide h2; have HV := hide hv
 clear r1 r2 r3 hs hI hl hw hp h2 hv
 have c1 := iCells0 hS1.r1
 go_enter func34, ntmps34
 go_wp2_with fail
 generalize ((w.alloc (.cells #[.slice A n c] 24)).alloc (.cells (Rq0 p) 53)).alloc (.cells Rq3 24) = w1 at *
 refine (Code.valid_of l A n c HL.out HW.out hn w1 hS1.its false HV.out).mono ?_
 rintro e w2 ⟨rfl, hbq⟩
 have hS2 := hS1.below hbq
 have hb2 := bnext hb1 hbq
 have hsz : w.heap.size + 3 ≤ w2.heap.size := by have := hbq.size; have := HS.out; omega
 clear hbq hS1 hb1 c1 HS
 have hst := store_part (ty := 24) w2 (w.heap.size + 1 + 1) 0 Rq3 (.agg Rq3) Rq3 hS2.r3 infoCode1 (Nat.le_refl _) (one_code _ _ _) rfl
 have r25 := setRow_heap w2 (w.heap.size + 1 + 1) _ Rq3 _ _ hS2.r3
 have hb8 := below_setRow hb2 (by omega) (g := w.heap.size + 1 + 1) Rq3
 go_wp2
 refine bodyPost_ret (results_c8 results34 _ _ (w.heap.size + 1 + 1) 24 #[.slice none 0 0] (0, 0) _ rfl r25 underlying24 (by kernel_rfl)) rfl (ApR.err rfl hb8)
attribute [-go_sem] Instr.storeAt in
theorem applyw_unf (l : List Dg.It) (A : Option Addr) (n c : Nat) (hl : l.length = n) (hn : n ≤ 1048576) (hw : ∀ x ∈ l, ItW x) (p : Dg.Pt) (hp : PtW p) (h2 : p.kind = 2) (hv : Dg.validC l = true) (hf : Dg.formed2 p = false)  (w : World) (hI : Its w w.heap.size A l) :
  Calls Tryz.prog 34 #[.agg #[.slice A n c], .agg (Rq0 p)] w (ApR ([], 1) w) := by
 obtain ⟨r1, r2, r3, hb1, hs⟩ := iAlloc3 w (.cells #[.slice A n c] 24) (.cells (Rq0 p) 53) (.cells Rq3 24)
 have hS1 : ApS w.heap.size A n c l p (((w.alloc (.cells #[.slice A n c] 24)).alloc (.cells (Rq0 p) 53)).alloc (.cells Rq3 24)) := ⟨r1, r2, r3, hI.keep hb1⟩
 have hmx := hmxQ
 have HS := hide hs; have HL := hide hl; have HW := hide hw; have HP := hide hp; have H2 := hide h2; have HV := hide hv
 clear r1 r2 r3 hs hI hl hw hp h2 hv
 have HF := hide hf
 clear hf
 have c1 := iCells0 hS1.r1
 go_enter func34, ntmps34
 go_wp2_with fail
 generalize ((w.alloc (.cells #[.slice A n c] 24)).alloc (.cells (Rq0 p) 53)).alloc (.cells Rq3 24) = w1 at *
 refine (Code.valid_of l A n c HL.out HW.out hn w1 hS1.its true HV.out).mono ?_
 rintro e w2 ⟨rfl, hbq⟩
 have hS2 := hS1.below hbq
 have hb2 := bnext hb1 hbq
 have hsz : w.heap.size + 3 ≤ w2.heap.size := by have := hbq.size; have := HS.out; omega
 clear hbq hS1 hb1 c1 HS
 have hL2 := hide (range_of hS2.r2 0 (Rq0 p) rfl)
 go_wp2_with (refine wpList_load_midW 53 (.tmp 3) rfl (by rfl) (w.heap.size + 1) 0 rfl _ _ hL2.out underlying53 rfl (by kernel_rfl) ?_)
 clear hL2
 refine (formedw_of p H2.out false HF.out w2).mono ?_
 rintro e w3 ⟨rfl, hbq⟩
 have hS3 := hS2.below hbq
 have hb3 := bnext hb2 hbq
 have hsz3 : w.heap.size + 3 ≤ w3.heap.size := by have := hbq.size; omega
 clear hbq hS2 hb2 hsz
 have hst := store_part (ty := 24) w3 (w.heap.size + 1 + 1) 0 Rq3 (.agg Rq3) Rq3 hS3.r3 infoCode1 (Nat.le_refl _) (one_code _ _ _) rfl
 have r25 := setRow_heap w3 (w.heap.size + 1 + 1) _ Rq3 _ _ hS3.r3
 have hb8 := below_setRow hb3 (by omega) (g := w.heap.size + 1 + 1) Rq3
 go_wp2
 refine bodyPost_ret (results_c8 results34 _ _ (w.heap.size + 1 + 1) 24 #[.slice none 0 0] (0, 0) _ rfl r25 underlying24 (by kernel_rfl)) rfl (ApR.err rfl hb8)
attribute [-go_sem] Instr.storeAt in
theorem applyw_none (l : List Dg.It) (A : Option Addr) (n c : Nat) (hl : l.length = n) (hn : n ≤ 1048576) (hw : ∀ x ∈ l, ItW x) (p : Dg.Pt) (hp : PtW p) (h2 : p.kind = 2) (hv : Dg.validC l = true) (y : Dg.It) (hy : Dg.itemA l p.id = y) (hf : Dg.formed2 p = true) (k1 : (p.kind != 1) = true) (y0 : (y.kind == 0) = true)  (w : World) (hI : Its w w.heap.size A l) :
  Calls Tryz.prog 34 #[.agg #[.slice A n c], .agg (Rq0 p)] w (ApR ([], 11) w) := by
 obtain ⟨r1, r2, r3, hb1, hs⟩ := iAlloc3 w (.cells #[.slice A n c] 24) (.cells (Rq0 p) 53) (.cells Rq3 24)
 have hS1 : ApS w.heap.size A n c l p (((w.alloc (.cells #[.slice A n c] 24)).alloc (.cells (Rq0 p) 53)).alloc (.cells Rq3 24)) := ⟨r1, r2, r3, hI.keep hb1⟩
 have hmx := hmxQ
 have HS := hide hs; have HL := hide hl; have HW := hide hw; have HP := hide hp; have H2 := hide h2; have HV := hide hv
 clear r1 r2 r3 hs hI hl hw hp h2 hv
 have HF := hide hf
 clear hf
 have HY := hide hy
 clear hy
 have c1 := iCells0 hS1.r1
 go_enter func34, ntmps34
 go_wp2_with fail
 generalize ((w.alloc (.cells #[.slice A n c] 24)).alloc (.cells (Rq0 p) 53)).alloc (.cells Rq3 24) = w1 at *
 refine (Code.valid_of l A n c HL.out HW.out hn w1 hS1.its true HV.out).mono ?_
 rintro e w2 ⟨rfl, hbq⟩
 have hS2 := hS1.below hbq
 have hb2 := bnext hb1 hbq
 have hsz : w.heap.size + 3 ≤ w2.heap.size := by have := hbq.size; have := HS.out; omega
 clear hbq hS1 hb1 c1 HS
 have hL2 := hide (range_of hS2.r2 0 (Rq0 p) rfl)
 go_wp2_with (refine wpList_load_midW 53 (.tmp 3) rfl (by rfl) (w.heap.size + 1) 0 rfl _ _ hL2.out underlying53 rfl (by kernel_rfl) ?_)
 clear hL2
 refine (formedw_of p H2.out true HF.out w2).mono ?_
 rintro e w3 ⟨rfl, hbq⟩
 have hS3 := hS2.below hbq
 have hb3 := bnext hb2 hbq
 have hsz3 : w.heap.size + 3 ≤ w3.heap.size := by have := hbq.size; omega
 clear hbq hS2 hb2 hsz
 obtain ⟨K0, hK0⟩ : ∃ K, findX l p.id = K := ⟨_, rfl⟩
 have HK0 := hide hK0
 clear hK0
 have HSK := hide (fun X (hX : Below w3.heap.size w3 X) => hS3.below hX)
 go_upto_region 3 with (fail)
 go_cut [6] from 18 to 24 (fun v6 wx => ∃ b6 : Nat, v6 = .pointer (some ⟨b6, 0, none⟩) ∧ w3.heap.size ≤ b6 ∧ wx.heap[b6]? = some (.cells (Rq5 A n c p K0) 143 (0, 0)) ∧ Below w3.heap.size w3 wx)
 case first =>
  refine wp_region_noPanic ?_
  refine wp_region_L (Below w3.heap.size w3) 9 hmx ?_
  have hH0 : (Below w3.heap.size w3) w3.drew := (Below.refl w3.heap.size w3).drew
  generalize w3.drew = u0 at *
  refine tU 0 11 hH0 rfl ?_ (by intro wS hS; have c1 := iCells0 (HSK.out _ hS).r1; go_simp; (try with_reducible rfl))
  refine tkV 1 11 (.agg (Rq0 p)) rfl (by exact yieldsIf_load_mid (by rfl) 53 (.tmp 3) rfl (w.heap.size + 1) 0 rfl (Rq0 p) _ (fun X hX => range_of (HSK.out X hX).r2 0 (Rq0 p) rfl) underlying53 rfl (by kernel_rfl)) hH0 ?_
  simp only [Act.put, pu]
  refine tU 2 11 hH0 rfl ?_ (by intro wS hS; have c1 := iCells0 (HSK.out _ hS).r1; go_simp; (try with_reducible rfl))
  refine tU 3 11 hH0 rfl ?_
  refine tU 4 11 hH0 rfl ?_ (by intro wS hS; have k1 := (jC15 (HSK.out _ hS).r2).2.1; go_simp; (try with_reducible rfl))
  refine wpAnyL_duo (i := 5) (j := 7) (by decide +kernel) (by rfl) (by rfl) (fun K hK => ?_) (fun K hK => ?_)
  ·rw [if_pos (by rfl)]
   go_simp
   refine (Code.find_of l A n c HL.out hn p.id u0 (HSK.out _ hH0).its K0 HK0.out).mono ?_
   rintro e u1 ⟨rfl, hx1⟩
   have hH1 := hH0.trans (hx1.mono hH0.size)
   refine hK.out _ _ (Or.inr hH1) ?_
   clear hK K hx1
   try simp only [Act.put, pu]
   refine tU 6 11 hH1 rfl ?_
   refine oY 7 fun K hK => ?_
   go_simp
   have hx2 := nwB u1 (.cells Rq15 143)
   have hr2 := heap_alloc_new u1 (.cells Rq15 143)
   have hg2 : w3.heap.size ≤ u1.heap.size := hH1.size
   have hH2 := hH1.trans (hx2.mono hH1.size)
   refine hK.out _ _ (Or.inr hH2) ?_
   clear hK K hx2
   try simp only [Act.put, pu]
   generalize u1.alloc (.cells Rq15 143) = u2 at *
   generalize u1.heap.size = g2 at *
   refine oY 8 fun K hK => ?_
   have hst := store_part (ty := 143) u2 g2 0 Rq15 (.agg (Rq5 A n c p K0)) (Rq5 A n c p K0) hr2 infoCh17 (Nat.le_refl _) (one_change A n c p K0) rfl
   go_simp
   clear hst
   have hr3 := setRow_heap u2 g2 _ (Rq5 A n c p K0) _ _ hr2
   have hH3 := below_setRow hH2 hg2 (g := g2) (Rq5 A n c p K0)
   refine hK.out _ _ (Or.inr hH3) ?_
   clear hK K
   try simp only [Act.put, pu]
   refine dnY ?_
   go_wp2_with fail
   go_meet
   case rel => exact ⟨g2, rfl, hg2, hr3, hH3⟩
  ·rw [if_pos (by rfl)]
   go_simp
   have hx2 := nwB u0 (.cells Rq15 143)
   have hr1 := heap_alloc_new u0 (.cells Rq15 143)
   have hg2 : w3.heap.size ≤ u0.heap.size := hH0.size
   have hH1 := hH0.trans (hx2.mono hH0.size)
   refine hK.out _ _ (Or.inr hH1) ?_
   clear hK K hx2
   try simp only [Act.put, pu]
   generalize u0.alloc (.cells Rq15 143) = u1 at *
   generalize u0.heap.size = g2 at *
   refine oY 5 fun K hK => ?_
   go_simp
   refine (Code.find_of l A n c HL.out hn p.id u1 (HSK.out _ hH1).its K0 HK0.out).mono ?_
   rintro e u2 ⟨rfl, hx1⟩
   have hH2 := hH1.trans (hx1.mono hH1.size)
   have hr2 := iNext hr1 hx1
   refine hK.out _ _ (Or.inr hH2) ?_
   clear hK K hx1
   try simp only [Act.put, pu]
   refine tU 6 11 hH2 rfl ?_
   refine oY 8 fun K hK => ?_
   have hst := store_part (ty := 143) u2 g2 0 Rq15 (.agg (Rq5 A n c p K0)) (Rq5 A n c p K0) hr2 infoCh17 (Nat.le_refl _) (one_change A n c p K0) rfl
   go_simp
   clear hst
   have hr3 := setRow_heap u2 g2 _ (Rq5 A n c p K0) _ _ hr2
   have hH3 := below_setRow hH2 hg2 (g := g2) (Rq5 A n c p K0)
   refine hK.out _ _ (Or.inr hH3) ?_
   clear hK K
   try simp only [Act.put, pu]
   refine dnY ?_
   go_wp2_with fail
   go_meet
   case rel => exact ⟨g2, rfl, hg2, hr3, hH3⟩
 case rest =>
  obtain ⟨b6, rfl, hb6, r6, hbw⟩ := hcut
  rename World => wq
  have hS4 := HSK.out _ hbw
  have hb4 := bnext hb3 hbw
  clear hbw HSK hS3 hb3
  have hst := store_new (ty := 146) (T := 146) wq #[.nilFunc, .nilFunc, .nilFunc, .nilFunc, .nilFunc, .nilFunc, .nilFunc, .nilFunc] Rq16 (by kernel_rfl) rfl (by decide +kernel)
  have hb6q := lt_of_block r6
  go_upto_region 5 with (fail)
  clear hst
  have hbn := nwB wq (.cells Rq16 146)
  have r7 := heap_alloc_new wq (.cells Rq16 146)
  have hS5 := hS4.below hbn
  have r65 := iNext r6 hbn
  have hb5 := bnext hb4 hbn
  clear hbn hS4 r6 hb4
  obtain ⟨b7, hb7⟩ : ∃ b7, b7 = wq.heap.size := ⟨_, rfl⟩
  rw [← hb7] at r7 hb6q ⊢
  have HB7 := hide hb7
  clear hb7
  generalize wq.alloc (.cells Rq16 146) = w5 at *
  clear HB7
  have c0 := (jC15 hS5.r2).1
  have k1 := (jC15 hS5.r2).2.1
  have hL6 := hide (range_of r65 0 (Rq5 A n c p K0) rfl)
  go_wp2_with (with_reducible refine wpList_load_mid rfl 143 (.tmp 6) rfl b6 0 rfl _ _ hL6.out underlying143 rfl (by kernel_rfl) ?_)
  refine (item_of l A n c HL.out hn p K0 p.id w5 hS5.its y HY.out).mono ?_
  rintro e w6 ⟨rfl, hbq⟩
  clear hL6 k1 c0
  have hS6 := hS5.below hbq
  have r66 := iNext r65 hbq
  have r76 := iNext r7 hbq
  have hb6' := bnext hb5 hbq
  clear hbq hS5 r65 r7 hb5
  have hst := store_new (ty := 51) (T := 51) w6 Rq1 (Rq4 y) (by kernel_rfl) rfl (all_oneCell_toArray (iLay.one y))
  go_upto_region 7 with (fail)
  clear hst
  have hbn := nwB w6 (.cells (Rq4 y) 51)
  have r8 := heap_alloc_new w6 (.cells (Rq4 y) 51)
  have hS7 := hS6.below hbn
  have r67 := iNext r66 hbn
  have r77 := iNext r76 hbn
  have hb7' := bnext hb6' hbn
  clear hbn hS6 r66 r76 hb6'
  obtain ⟨b8, hb8⟩ : ∃ b8, b8 = w6.heap.size := ⟨_, rfl⟩
  rw [← hb8] at r8 ⊢
  have HB8 := hide hb8
  clear hb8
  generalize w6.alloc (.cells (Rq4 y) 51) = w7 at *
  clear HB8
  have c0 := (jC15 hS7.r2).1
  obtain ⟨z0, z1, z2, z3, z4, z5, z6⟩ := iCells r8
  clear z1 z2 z3 z4 z5
  have hsz7 := lt_of_block hS7.r3
  have hst := store_part (ty := 24) w7 (w.heap.size + 1 + 1) 0 Rq3 (.agg Rq3) Rq3 hS7.r3 infoCode1 (Nat.le_refl _) (one_code _ _ _) rfl
  have r25 := setRow_heap w7 (w.heap.size + 1 + 1) _ Rq3 _ _ hS7.r3
  have hb8 := below_setRow hb7' (by omega) (g := w.heap.size + 1 + 1) Rq3
  go_wp2
  refine bodyPost_ret (results_c8 results34 _ _ (w.heap.size + 1 + 1) 24 #[.slice none 0 0] (0, 0) _ rfl r25 underlying24 (by kernel_rfl)) rfl (ApR.err rfl hb8)
attribute [-go_sem] Instr.storeAt in
theorem applyw_art (l : List Dg.It) (A : Option Addr) (n c : Nat) (hl : l.length = n) (hn : n ≤ 1048576) (hw : ∀ x ∈ l, ItW x) (p : Dg.Pt) (hp : PtW p) (h2 : p.kind = 2) (hv : Dg.validC l = true) (y : Dg.It) (hy : Dg.itemA l p.id = y) (hf : Dg.formed2 p = true) (k1 : (p.kind != 1) = true) (y0 : (y.kind == 0) = false) (y1 : (y.kind == 1) = true) (k3 : (p.kind != 3) = true) (k4 : (p.kind != 4) = true)  (w : World) (hI : Its w w.heap.size A l) :
  Calls Tryz.prog 34 #[.agg #[.slice A n c], .agg (Rq0 p)] w (ApR ([], 11) w) := by
 obtain ⟨r1, r2, r3, hb1, hs⟩ := iAlloc3 w (.cells #[.slice A n c] 24) (.cells (Rq0 p) 53) (.cells Rq3 24)
 have hS1 : ApS w.heap.size A n c l p (((w.alloc (.cells #[.slice A n c] 24)).alloc (.cells (Rq0 p) 53)).alloc (.cells Rq3 24)) := ⟨r1, r2, r3, hI.keep hb1⟩
 have hmx := hmxQ
 have HS := hide hs; have HL := hide hl; have HW := hide hw; have HP := hide hp; have H2 := hide h2; have HV := hide hv
 clear r1 r2 r3 hs hI hl hw hp h2 hv
 have HF := hide hf
 clear hf
 have HY := hide hy
 clear hy
 have c1 := iCells0 hS1.r1
 go_enter func34, ntmps34
 go_wp2_with fail
 generalize ((w.alloc (.cells #[.slice A n c] 24)).alloc (.cells (Rq0 p) 53)).alloc (.cells Rq3 24) = w1 at *
 refine (Code.valid_of l A n c HL.out HW.out hn w1 hS1.its true HV.out).mono ?_
 rintro e w2 ⟨rfl, hbq⟩
 have hS2 := hS1.below hbq
 have hb2 := bnext hb1 hbq
 have hsz : w.heap.size + 3 ≤ w2.heap.size := by have := hbq.size; have := HS.out; omega
 clear hbq hS1 hb1 c1 HS
 have hL2 := hide (range_of hS2.r2 0 (Rq0 p) rfl)
 go_wp2_with (refine wpList_load_midW 53 (.tmp 3) rfl (by rfl) (w.heap.size + 1) 0 rfl _ _ hL2.out underlying53 rfl (by kernel_rfl) ?_)
 clear hL2
 refine (formedw_of p H2.out true HF.out w2).mono ?_
 rintro e w3 ⟨rfl, hbq⟩
 have hS3 := hS2.below hbq
 have hb3 := bnext hb2 hbq
 have hsz3 : w.heap.size + 3 ≤ w3.heap.size := by have := hbq.size; omega
 clear hbq hS2 hb2 hsz
 obtain ⟨K0, hK0⟩ : ∃ K, findX l p.id = K := ⟨_, rfl⟩
 have HK0 := hide hK0
 clear hK0
 have HSK := hide (fun X (hX : Below w3.heap.size w3 X) => hS3.below hX)
 go_upto_region 3 with (fail)
 go_cut [6] from 18 to 24 (fun v6 wx => ∃ b6 : Nat, v6 = .pointer (some ⟨b6, 0, none⟩) ∧ w3.heap.size ≤ b6 ∧ wx.heap[b6]? = some (.cells (Rq5 A n c p K0) 143 (0, 0)) ∧ Below w3.heap.size w3 wx)
 case first =>
  refine wp_region_noPanic ?_
  refine wp_region_L (Below w3.heap.size w3) 9 hmx ?_
  have hH0 : (Below w3.heap.size w3) w3.drew := (Below.refl w3.heap.size w3).drew
  generalize w3.drew = u0 at *
  refine tU 0 11 hH0 rfl ?_ (by intro wS hS; have c1 := iCells0 (HSK.out _ hS).r1; go_simp; (try with_reducible rfl))
  refine tkV 1 11 (.agg (Rq0 p)) rfl (by exact yieldsIf_load_mid (by rfl) 53 (.tmp 3) rfl (w.heap.size + 1) 0 rfl (Rq0 p) _ (fun X hX => range_of (HSK.out X hX).r2 0 (Rq0 p) rfl) underlying53 rfl (by kernel_rfl)) hH0 ?_
  simp only [Act.put, pu]
  refine tU 2 11 hH0 rfl ?_ (by intro wS hS; have c1 := iCells0 (HSK.out _ hS).r1; go_simp; (try with_reducible rfl))
  refine tU 3 11 hH0 rfl ?_
  refine tU 4 11 hH0 rfl ?_ (by intro wS hS; have k1 := (jC15 (HSK.out _ hS).r2).2.1; go_simp; (try with_reducible rfl))
  refine wpAnyL_duo (i := 5) (j := 7) (by decide +kernel) (by rfl) (by rfl) (fun K hK => ?_) (fun K hK => ?_)
  ·rw [if_pos (by rfl)]
   go_simp
   refine (Code.find_of l A n c HL.out hn p.id u0 (HSK.out _ hH0).its K0 HK0.out).mono ?_
   rintro e u1 ⟨rfl, hx1⟩
   have hH1 := hH0.trans (hx1.mono hH0.size)
   refine hK.out _ _ (Or.inr hH1) ?_
   clear hK K hx1
   try simp only [Act.put, pu]
   refine tU 6 11 hH1 rfl ?_
   refine oY 7 fun K hK => ?_
   go_simp
   have hx2 := nwB u1 (.cells Rq15 143)
   have hr2 := heap_alloc_new u1 (.cells Rq15 143)
   have hg2 : w3.heap.size ≤ u1.heap.size := hH1.size
   have hH2 := hH1.trans (hx2.mono hH1.size)
   refine hK.out _ _ (Or.inr hH2) ?_
   clear hK K hx2
   try simp only [Act.put, pu]
   generalize u1.alloc (.cells Rq15 143) = u2 at *
   generalize u1.heap.size = g2 at *
   refine oY 8 fun K hK => ?_
   have hst := store_part (ty := 143) u2 g2 0 Rq15 (.agg (Rq5 A n c p K0)) (Rq5 A n c p K0) hr2 infoCh17 (Nat.le_refl _) (one_change A n c p K0) rfl
   go_simp
   clear hst
   have hr3 := setRow_heap u2 g2 _ (Rq5 A n c p K0) _ _ hr2
   have hH3 := below_setRow hH2 hg2 (g := g2) (Rq5 A n c p K0)
   refine hK.out _ _ (Or.inr hH3) ?_
   clear hK K
   try simp only [Act.put, pu]
   refine dnY ?_
   go_wp2_with fail
   go_meet
   case rel => exact ⟨g2, rfl, hg2, hr3, hH3⟩
  ·rw [if_pos (by rfl)]
   go_simp
   have hx2 := nwB u0 (.cells Rq15 143)
   have hr1 := heap_alloc_new u0 (.cells Rq15 143)
   have hg2 : w3.heap.size ≤ u0.heap.size := hH0.size
   have hH1 := hH0.trans (hx2.mono hH0.size)
   refine hK.out _ _ (Or.inr hH1) ?_
   clear hK K hx2
   try simp only [Act.put, pu]
   generalize u0.alloc (.cells Rq15 143) = u1 at *
   generalize u0.heap.size = g2 at *
   refine oY 5 fun K hK => ?_
   go_simp
   refine (Code.find_of l A n c HL.out hn p.id u1 (HSK.out _ hH1).its K0 HK0.out).mono ?_
   rintro e u2 ⟨rfl, hx1⟩
   have hH2 := hH1.trans (hx1.mono hH1.size)
   have hr2 := iNext hr1 hx1
   refine hK.out _ _ (Or.inr hH2) ?_
   clear hK K hx1
   try simp only [Act.put, pu]
   refine tU 6 11 hH2 rfl ?_
   refine oY 8 fun K hK => ?_
   have hst := store_part (ty := 143) u2 g2 0 Rq15 (.agg (Rq5 A n c p K0)) (Rq5 A n c p K0) hr2 infoCh17 (Nat.le_refl _) (one_change A n c p K0) rfl
   go_simp
   clear hst
   have hr3 := setRow_heap u2 g2 _ (Rq5 A n c p K0) _ _ hr2
   have hH3 := below_setRow hH2 hg2 (g := g2) (Rq5 A n c p K0)
   refine hK.out _ _ (Or.inr hH3) ?_
   clear hK K
   try simp only [Act.put, pu]
   refine dnY ?_
   go_wp2_with fail
   go_meet
   case rel => exact ⟨g2, rfl, hg2, hr3, hH3⟩
 case rest =>
  obtain ⟨b6, rfl, hb6, r6, hbw⟩ := hcut
  rename World => wq
  have hS4 := HSK.out _ hbw
  have hb4 := bnext hb3 hbw
  clear hbw HSK hS3 hb3
  have hst := store_new (ty := 146) (T := 146) wq #[.nilFunc, .nilFunc, .nilFunc, .nilFunc, .nilFunc, .nilFunc, .nilFunc, .nilFunc] Rq16 (by kernel_rfl) rfl (by decide +kernel)
  have hb6q := lt_of_block r6
  go_upto_region 5 with (fail)
  clear hst
  have hbn := nwB wq (.cells Rq16 146)
  have r7 := heap_alloc_new wq (.cells Rq16 146)
  have hS5 := hS4.below hbn
  have r65 := iNext r6 hbn
  have hb5 := bnext hb4 hbn
  clear hbn hS4 r6 hb4
  obtain ⟨b7, hb7⟩ : ∃ b7, b7 = wq.heap.size := ⟨_, rfl⟩
  rw [← hb7] at r7 hb6q ⊢
  have HB7 := hide hb7
  clear hb7
  generalize wq.alloc (.cells Rq16 146) = w5 at *
  clear HB7
  have c0 := (jC15 hS5.r2).1
  have k1 := (jC15 hS5.r2).2.1
  have hL6 := hide (range_of r65 0 (Rq5 A n c p K0) rfl)
  go_wp2_with (with_reducible refine wpList_load_mid rfl 143 (.tmp 6) rfl b6 0 rfl _ _ hL6.out underlying143 rfl (by kernel_rfl) ?_)
  refine (item_of l A n c HL.out hn p K0 p.id w5 hS5.its y HY.out).mono ?_
  rintro e w6 ⟨rfl, hbq⟩
  clear hL6 k1 c0
  have hS6 := hS5.below hbq
  have r66 := iNext r65 hbq
  have r76 := iNext r7 hbq
  have hb6' := bnext hb5 hbq
  clear hbq hS5 r65 r7 hb5
  have hst := store_new (ty := 51) (T := 51) w6 Rq1 (Rq4 y) (by kernel_rfl) rfl (all_oneCell_toArray (iLay.one y))
  go_upto_region 7 with (fail)
  clear hst
  have hbn := nwB w6 (.cells (Rq4 y) 51)
  have r8 := heap_alloc_new w6 (.cells (Rq4 y) 51)
  have hS7 := hS6.below hbn
  have r67 := iNext r66 hbn
  have r77 := iNext r76 hbn
  have hb7' := bnext hb6' hbn
  clear hbn hS6 r66 r76 hb6'
  obtain ⟨b8, hb8⟩ : ∃ b8, b8 = w6.heap.size := ⟨_, rfl⟩
  rw [← hb8] at r8 ⊢
  have HB8 := hide hb8
  clear hb8
  generalize w6.alloc (.cells (Rq4 y) 51) = w7 at *
  clear HB8
  have c0 := (jC15 hS7.r2).1
  obtain ⟨z0, z1, z2, z3, z4, z5, z6⟩ := iCells r8
  clear z1 z2 z3 z4 z5
  have hsz7 := lt_of_block hS7.r3
  have hst := store_part (ty := 24) w7 (w.heap.size + 1 + 1) 0 Rq3 (.agg Rq3) Rq3 hS7.r3 infoCode1 (Nat.le_refl _) (one_code _ _ _) rfl
  have r25 := setRow_heap w7 (w.heap.size + 1 + 1) _ Rq3 _ _ hS7.r3
  have hb8 := below_setRow hb7' (by omega) (g := w.heap.size + 1 + 1) Rq3
  go_wp2
  refine bodyPost_ret (results_c8 results34 _ _ (w.heap.size + 1 + 1) 24 #[.slice none 0 0] (0, 0) _ rfl r25 underlying24 (by kernel_rfl)) rfl (ApR.err rfl hb8)
attribute [-go_sem] Instr.storeAt in
theorem applyw_gone (l : List Dg.It) (A : Option Addr) (n c : Nat) (hl : l.length = n) (hn : n ≤ 1048576) (hw : ∀ x ∈ l, ItW x) (p : Dg.Pt) (hp : PtW p) (h2 : p.kind = 2) (hv : Dg.validC l = true) (y : Dg.It) (hy : Dg.itemA l p.id = y) (hf : Dg.formed2 p = true) (k1 : (p.kind != 1) = true) (y0 : (y.kind == 0) = false) (y1 : (y.kind == 1) = false) (k6 : (p.kind == 6) = false) (k6n : (p.kind != 6) = true) (yg : y.gone = true)  (w : World) (hI : Its w w.heap.size A l) :
  Calls Tryz.prog 34 #[.agg #[.slice A n c], .agg (Rq0 p)] w (ApR ([], 16) w) := by
 obtain ⟨r1, r2, r3, hb1, hs⟩ := iAlloc3 w (.cells #[.slice A n c] 24) (.cells (Rq0 p) 53) (.cells Rq3 24)
 have hS1 : ApS w.heap.size A n c l p (((w.alloc (.cells #[.slice A n c] 24)).alloc (.cells (Rq0 p) 53)).alloc (.cells Rq3 24)) := ⟨r1, r2, r3, hI.keep hb1⟩
 have hmx := hmxQ
 have HS := hide hs; have HL := hide hl; have HW := hide hw; have HP := hide hp; have H2 := hide h2; have HV := hide hv
 clear r1 r2 r3 hs hI hl hw hp h2 hv
 have HF := hide hf
 clear hf
 have HY := hide hy
 clear hy
 have YG := hide yg
 clear yg
 have c1 := iCells0 hS1.r1
 go_enter func34, ntmps34
 go_wp2_with fail
 generalize ((w.alloc (.cells #[.slice A n c] 24)).alloc (.cells (Rq0 p) 53)).alloc (.cells Rq3 24) = w1 at *
 refine (Code.valid_of l A n c HL.out HW.out hn w1 hS1.its true HV.out).mono ?_
 rintro e w2 ⟨rfl, hbq⟩
 have hS2 := hS1.below hbq
 have hb2 := bnext hb1 hbq
 have hsz : w.heap.size + 3 ≤ w2.heap.size := by have := hbq.size; have := HS.out; omega
 clear hbq hS1 hb1 c1 HS
 have hL2 := hide (range_of hS2.r2 0 (Rq0 p) rfl)
 go_wp2_with (refine wpList_load_midW 53 (.tmp 3) rfl (by rfl) (w.heap.size + 1) 0 rfl _ _ hL2.out underlying53 rfl (by kernel_rfl) ?_)
 clear hL2
 refine (formedw_of p H2.out true HF.out w2).mono ?_
 rintro e w3 ⟨rfl, hbq⟩
 have hS3 := hS2.below hbq
 have hb3 := bnext hb2 hbq
 have hsz3 : w.heap.size + 3 ≤ w3.heap.size := by have := hbq.size; omega
 clear hbq hS2 hb2 hsz
 obtain ⟨K0, hK0⟩ : ∃ K, findX l p.id = K := ⟨_, rfl⟩
 have HK0 := hide hK0
 clear hK0
 have HSK := hide (fun X (hX : Below w3.heap.size w3 X) => hS3.below hX)
 go_upto_region 3 with (fail)
 go_cut [6] from 18 to 24 (fun v6 wx => ∃ b6 : Nat, v6 = .pointer (some ⟨b6, 0, none⟩) ∧ w3.heap.size ≤ b6 ∧ wx.heap[b6]? = some (.cells (Rq5 A n c p K0) 143 (0, 0)) ∧ Below w3.heap.size w3 wx)
 case first =>
  refine wp_region_noPanic ?_
  refine wp_region_L (Below w3.heap.size w3) 9 hmx ?_
  have hH0 : (Below w3.heap.size w3) w3.drew := (Below.refl w3.heap.size w3).drew
  generalize w3.drew = u0 at *
  refine tU 0 11 hH0 rfl ?_ (by intro wS hS; have c1 := iCells0 (HSK.out _ hS).r1; go_simp; (try with_reducible rfl))
  refine tkV 1 11 (.agg (Rq0 p)) rfl (by exact yieldsIf_load_mid (by rfl) 53 (.tmp 3) rfl (w.heap.size + 1) 0 rfl (Rq0 p) _ (fun X hX => range_of (HSK.out X hX).r2 0 (Rq0 p) rfl) underlying53 rfl (by kernel_rfl)) hH0 ?_
  simp only [Act.put, pu]
  refine tU 2 11 hH0 rfl ?_ (by intro wS hS; have c1 := iCells0 (HSK.out _ hS).r1; go_simp; (try with_reducible rfl))
  refine tU 3 11 hH0 rfl ?_
  refine tU 4 11 hH0 rfl ?_ (by intro wS hS; have k1 := (jC15 (HSK.out _ hS).r2).2.1; go_simp; (try with_reducible rfl))
  refine wpAnyL_duo (i := 5) (j := 7) (by decide +kernel) (by rfl) (by rfl) (fun K hK => ?_) (fun K hK => ?_)
  ·rw [if_pos (by rfl)]
   go_simp
   refine (Code.find_of l A n c HL.out hn p.id u0 (HSK.out _ hH0).its K0 HK0.out).mono ?_
   rintro e u1 ⟨rfl, hx1⟩
   have hH1 := hH0.trans (hx1.mono hH0.size)
   refine hK.out _ _ (Or.inr hH1) ?_
   clear hK K hx1
   try simp only [Act.put, pu]
   refine tU 6 11 hH1 rfl ?_
   refine oY 7 fun K hK => ?_
   go_simp
   have hx2 := nwB u1 (.cells Rq15 143)
   have hr2 := heap_alloc_new u1 (.cells Rq15 143)
   have hg2 : w3.heap.size ≤ u1.heap.size := hH1.size
   have hH2 := hH1.trans (hx2.mono hH1.size)
   refine hK.out _ _ (Or.inr hH2) ?_
   clear hK K hx2
   try simp only [Act.put, pu]
   generalize u1.alloc (.cells Rq15 143) = u2 at *
   generalize u1.heap.size = g2 at *
   refine oY 8 fun K hK => ?_
   have hst := store_part (ty := 143) u2 g2 0 Rq15 (.agg (Rq5 A n c p K0)) (Rq5 A n c p K0) hr2 infoCh17 (Nat.le_refl _) (one_change A n c p K0) rfl
   go_simp
   clear hst
   have hr3 := setRow_heap u2 g2 _ (Rq5 A n c p K0) _ _ hr2
   have hH3 := below_setRow hH2 hg2 (g := g2) (Rq5 A n c p K0)
   refine hK.out _ _ (Or.inr hH3) ?_
   clear hK K
   try simp only [Act.put, pu]
   refine dnY ?_
   go_wp2_with fail
   go_meet
   case rel => exact ⟨g2, rfl, hg2, hr3, hH3⟩
  ·rw [if_pos (by rfl)]
   go_simp
   have hx2 := nwB u0 (.cells Rq15 143)
   have hr1 := heap_alloc_new u0 (.cells Rq15 143)
   have hg2 : w3.heap.size ≤ u0.heap.size := hH0.size
   have hH1 := hH0.trans (hx2.mono hH0.size)
   refine hK.out _ _ (Or.inr hH1) ?_
   clear hK K hx2
   try simp only [Act.put, pu]
   generalize u0.alloc (.cells Rq15 143) = u1 at *
   generalize u0.heap.size = g2 at *
   refine oY 5 fun K hK => ?_
   go_simp
   refine (Code.find_of l A n c HL.out hn p.id u1 (HSK.out _ hH1).its K0 HK0.out).mono ?_
   rintro e u2 ⟨rfl, hx1⟩
   have hH2 := hH1.trans (hx1.mono hH1.size)
   have hr2 := iNext hr1 hx1
   refine hK.out _ _ (Or.inr hH2) ?_
   clear hK K hx1
   try simp only [Act.put, pu]
   refine tU 6 11 hH2 rfl ?_
   refine oY 8 fun K hK => ?_
   have hst := store_part (ty := 143) u2 g2 0 Rq15 (.agg (Rq5 A n c p K0)) (Rq5 A n c p K0) hr2 infoCh17 (Nat.le_refl _) (one_change A n c p K0) rfl
   go_simp
   clear hst
   have hr3 := setRow_heap u2 g2 _ (Rq5 A n c p K0) _ _ hr2
   have hH3 := below_setRow hH2 hg2 (g := g2) (Rq5 A n c p K0)
   refine hK.out _ _ (Or.inr hH3) ?_
   clear hK K
   try simp only [Act.put, pu]
   refine dnY ?_
   go_wp2_with fail
   go_meet
   case rel => exact ⟨g2, rfl, hg2, hr3, hH3⟩
 case rest =>
  obtain ⟨b6, rfl, hb6, r6, hbw⟩ := hcut
  rename World => wq
  have hS4 := HSK.out _ hbw
  have hb4 := bnext hb3 hbw
  clear hbw HSK hS3 hb3
  have hst := store_new (ty := 146) (T := 146) wq #[.nilFunc, .nilFunc, .nilFunc, .nilFunc, .nilFunc, .nilFunc, .nilFunc, .nilFunc] Rq16 (by kernel_rfl) rfl (by decide +kernel)
  have hb6q := lt_of_block r6
  go_upto_region 5 with (fail)
  clear hst
  have hbn := nwB wq (.cells Rq16 146)
  have r7 := heap_alloc_new wq (.cells Rq16 146)
  have hS5 := hS4.below hbn
  have r65 := iNext r6 hbn
  have hb5 := bnext hb4 hbn
  clear hbn hS4 r6 hb4
  obtain ⟨b7, hb7⟩ : ∃ b7, b7 = wq.heap.size := ⟨_, rfl⟩
  rw [← hb7] at r7 hb6q ⊢
  have HB7 := hide hb7
  clear hb7
  generalize wq.alloc (.cells Rq16 146) = w5 at *
  clear HB7
  have c0 := (jC15 hS5.r2).1
  have k1 := (jC15 hS5.r2).2.1
  have hL6 := hide (range_of r65 0 (Rq5 A n c p K0) rfl)
  go_wp2_with (with_reducible refine wpList_load_mid rfl 143 (.tmp 6) rfl b6 0 rfl _ _ hL6.out underlying143 rfl (by kernel_rfl) ?_)
  refine (item_of l A n c HL.out hn p K0 p.id w5 hS5.its y HY.out).mono ?_
  rintro e w6 ⟨rfl, hbq⟩
  clear hL6 k1 c0
  have hS6 := hS5.below hbq
  have r66 := iNext r65 hbq
  have r76 := iNext r7 hbq
  have hb6' := bnext hb5 hbq
  clear hbq hS5 r65 r7 hb5
  have hst := store_new (ty := 51) (T := 51) w6 Rq1 (Rq4 y) (by kernel_rfl) rfl (all_oneCell_toArray (iLay.one y))
  go_upto_region 7 with (fail)
  clear hst
  have hbn := nwB w6 (.cells (Rq4 y) 51)
  have r8 := heap_alloc_new w6 (.cells (Rq4 y) 51)
  have hS7 := hS6.below hbn
  have r67 := iNext r66 hbn
  have r77 := iNext r76 hbn
  have hb7' := bnext hb6' hbn
  clear hbn hS6 r66 r76 hb6'
  obtain ⟨b8, hb8⟩ : ∃ b8, b8 = w6.heap.size := ⟨_, rfl⟩
  rw [← hb8] at r8 ⊢
  have HB8 := hide hb8
  clear hb8
  generalize w6.alloc (.cells (Rq4 y) 51) = w7 at *
  clear HB8
  have c0 := (jC15 hS7.r2).1
  obtain ⟨z0, z1, z2, z3, z4, z5, z6⟩ := iCells r8
  clear z1 z2 z3 z4 z5
  have yg := YG.out
  clear YG
  have hsz7 := lt_of_block hS7.r3
  have hst := store_part (ty := 24) w7 (w.heap.size + 1 + 1) 0 Rq3 (.agg Rq3) Rq3 hS7.r3 infoCode1 (Nat.le_refl _) (one_code _ _ _) rfl
  have r25 := setRow_heap w7 (w.heap.size + 1 + 1) _ Rq3 _ _ hS7.r3
  have hb8 := below_setRow hb7' (by omega) (g := w.heap.size + 1 + 1) Rq3
  go_wp2
  refine bodyPost_ret (results_c8 results34 _ _ (w.heap.size + 1 + 1) 24 #[.slice none 0 0] (0, 0) _ rfl r25 underlying24 (by kernel_rfl)) rfl (ApR.err rfl hb8)
attribute [-go_sem] Instr.storeAt in
theorem applyw_do (l : List Dg.It) (A : Option Addr) (n c : Nat) (hl : l.length = n) (hn : n ≤ 1048576) (hw : ∀ x ∈ l, ItW x) (p : Dg.Pt) (hp : PtW p) (h2 : p.kind = 2) (hv : Dg.validC l = true) (y : Dg.It) (hy : Dg.itemA l p.id = y) (hf : Dg.formed2 p = true) (i : Nat) (hi : Dg.idxI l p.id = some i) (hk : p.kind = 2) (y0 : (y.kind == 0) = false) (y1 : (y.kind == 1) = false) (yg : y.gone = false) (hlg : p.lang = 1 ∨ p.lang = 2) (htz : y.north.size ≤ 1000000 ∧ y.south.size ≤ 1000000) (hsz0 : p.src.size ≤ 1000000) (hdz : p.dst.size ≤ 1000000)  (w : World) (hI : Its w w.heap.size A l) (hmj : MaxJ w) :
  Calls Tryz.prog 34 #[.agg #[.slice A n c], .agg (Rq0 p)] w (ApR (Dg.wordsP l p i y) w) := by
 obtain ⟨r1, r2, r3, hb1, hs⟩ := iAlloc3 w (.cells #[.slice A n c] 24) (.cells (Rq0 p) 53) (.cells Rq3 24)
 have hS1 : ApS w.heap.size A n c l p (((w.alloc (.cells #[.slice A n c] 24)).alloc (.cells (Rq0 p) 53)).alloc (.cells Rq3 24)) := ⟨r1, r2, r3, hI.keep hb1⟩
 have hmx := hmxQ
 have HK := hide hk; have HMJ := hide hmj; have HLG := hide hlg; have HTZ := hide htz; have HSZ := hide hsz0; have HDZ := hide hdz
 clear hmj hlg htz hsz0 hdz
 have k1 : (p.kind != 1) = true := by rw [hk]; rfl
 have k6 : (p.kind == 6) = false := by rw [hk]; rfl
 have k6n : (p.kind != 6) = true := by rw [hk]; rfl
 have hil : i < n := by obtain ⟨h, _⟩ := Dg.idxI_some hi; omega
 have hyi : l.getD i Dg.zeroI = y := by rw [← hy]; unfold Dg.itemA; rw [hi]
 have HK0 := hide (findX_idx hi); have HIX := hide hi; have HYI := hide hyi; have HY := hide hy; have YG := hide yg
 clear hk hyi hi hy yg
 have HS := hide hs; have HL := hide hl; have HW := hide hw; have HP := hide hp; have H2 := hide h2; have HV := hide hv
 clear r1 r2 r3 hs hI hl hw hp h2 hv
 have HF := hide hf
 clear hf
 have c1 := iCells0 hS1.r1
 go_enter func34, ntmps34
 go_wp2_with fail
 generalize ((w.alloc (.cells #[.slice A n c] 24)).alloc (.cells (Rq0 p) 53)).alloc (.cells Rq3 24) = w1 at *
 refine (Code.valid_of l A n c HL.out HW.out hn w1 hS1.its true HV.out).mono ?_
 rintro e w2 ⟨rfl, hbq⟩
 have hS2 := hS1.below hbq
 have hb2 := bnext hb1 hbq
 have hsz : w.heap.size + 3 ≤ w2.heap.size := by have := hbq.size; have := HS.out; omega
 clear hbq hS1 hb1 c1 HS
 have hL2 := hide (range_of hS2.r2 0 (Rq0 p) rfl)
 go_wp2_with (refine wpList_load_midW 53 (.tmp 3) rfl (by rfl) (w.heap.size + 1) 0 rfl _ _ hL2.out underlying53 rfl (by kernel_rfl) ?_)
 clear hL2
 refine (formedw_of p H2.out true HF.out w2).mono ?_
 rintro e w3 ⟨rfl, hbq⟩
 have hS3 := hS2.below hbq
 have hb3 := bnext hb2 hbq
 have hsz3 : w.heap.size + 3 ≤ w3.heap.size := by have := hbq.size; omega
 clear hbq hS2 hb2 hsz
 have HSK := hide (fun X (hX : Below w3.heap.size w3 X) => hS3.below hX)
 go_upto_region 3 with (fail)
 go_cut [6] from 18 to 24 (fun v6 wx => ∃ b6 : Nat, v6 = .pointer (some ⟨b6, 0, none⟩) ∧ w3.heap.size ≤ b6 ∧ wx.heap[b6]? = some (.cells (Rq5 A n c p i) 143 (0, 0)) ∧ Below w3.heap.size w3 wx)
 case first =>
  refine wp_region_noPanic ?_
  refine wp_region_L (Below w3.heap.size w3) 9 hmx ?_
  have hH0 : (Below w3.heap.size w3) w3.drew := (Below.refl w3.heap.size w3).drew
  generalize w3.drew = u0 at *
  refine tU 0 11 hH0 rfl ?_ (by intro wS hS; have c1 := iCells0 (HSK.out _ hS).r1; go_simp; (try with_reducible rfl))
  refine tkV 1 11 (.agg (Rq0 p)) rfl (by exact yieldsIf_load_mid (by rfl) 53 (.tmp 3) rfl (w.heap.size + 1) 0 rfl (Rq0 p) _ (fun X hX => range_of (HSK.out X hX).r2 0 (Rq0 p) rfl) underlying53 rfl (by kernel_rfl)) hH0 ?_
  simp only [Act.put, pu]
  refine tU 2 11 hH0 rfl ?_ (by intro wS hS; have c1 := iCells0 (HSK.out _ hS).r1; go_simp; (try with_reducible rfl))
  refine tU 3 11 hH0 rfl ?_
  refine tU 4 11 hH0 rfl ?_ (by intro wS hS; have k1 := (jC15 (HSK.out _ hS).r2).2.1; go_simp; (try with_reducible rfl))
  refine wpAnyL_duo (i := 5) (j := 7) (by decide +kernel) (by rfl) (by rfl) (fun K hK => ?_) (fun K hK => ?_)
  ·rw [if_pos (by rfl)]
   go_simp
   refine (Code.find_of l A n c HL.out hn p.id u0 (HSK.out _ hH0).its (i : Int) HK0.out).mono ?_
   rintro e u1 ⟨rfl, hx1⟩
   have hH1 := hH0.trans (hx1.mono hH0.size)
   refine hK.out _ _ (Or.inr hH1) ?_
   clear hK K hx1
   try simp only [Act.put, pu]
   refine tU 6 11 hH1 rfl ?_
   refine oY 7 fun K hK => ?_
   go_simp
   have hx2 := nwB u1 (.cells Rq15 143)
   have hr2 := heap_alloc_new u1 (.cells Rq15 143)
   have hg2 : w3.heap.size ≤ u1.heap.size := hH1.size
   have hH2 := hH1.trans (hx2.mono hH1.size)
   refine hK.out _ _ (Or.inr hH2) ?_
   clear hK K hx2
   try simp only [Act.put, pu]
   generalize u1.alloc (.cells Rq15 143) = u2 at *
   generalize u1.heap.size = g2 at *
   refine oY 8 fun K hK => ?_
   have hst := store_part (ty := 143) u2 g2 0 Rq15 (.agg (Rq5 A n c p i)) (Rq5 A n c p i) hr2 infoCh17 (Nat.le_refl _) (one_change A n c p (i : Int)) rfl
   go_simp
   clear hst
   have hr3 := setRow_heap u2 g2 _ (Rq5 A n c p i) _ _ hr2
   have hH3 := below_setRow hH2 hg2 (g := g2) (Rq5 A n c p i)
   refine hK.out _ _ (Or.inr hH3) ?_
   clear hK K
   try simp only [Act.put, pu]
   refine dnY ?_
   go_wp2_with fail
   go_meet
   case rel => exact ⟨g2, rfl, hg2, hr3, hH3⟩
  ·rw [if_pos (by rfl)]
   go_simp
   have hx2 := nwB u0 (.cells Rq15 143)
   have hr1 := heap_alloc_new u0 (.cells Rq15 143)
   have hg2 : w3.heap.size ≤ u0.heap.size := hH0.size
   have hH1 := hH0.trans (hx2.mono hH0.size)
   refine hK.out _ _ (Or.inr hH1) ?_
   clear hK K hx2
   try simp only [Act.put, pu]
   generalize u0.alloc (.cells Rq15 143) = u1 at *
   generalize u0.heap.size = g2 at *
   refine oY 5 fun K hK => ?_
   go_simp
   refine (Code.find_of l A n c HL.out hn p.id u1 (HSK.out _ hH1).its (i : Int) HK0.out).mono ?_
   rintro e u2 ⟨rfl, hx1⟩
   have hH2 := hH1.trans (hx1.mono hH1.size)
   have hr2 := iNext hr1 hx1
   refine hK.out _ _ (Or.inr hH2) ?_
   clear hK K hx1
   try simp only [Act.put, pu]
   refine tU 6 11 hH2 rfl ?_
   refine oY 8 fun K hK => ?_
   have hst := store_part (ty := 143) u2 g2 0 Rq15 (.agg (Rq5 A n c p i)) (Rq5 A n c p i) hr2 infoCh17 (Nat.le_refl _) (one_change A n c p (i : Int)) rfl
   go_simp
   clear hst
   have hr3 := setRow_heap u2 g2 _ (Rq5 A n c p i) _ _ hr2
   have hH3 := below_setRow hH2 hg2 (g := g2) (Rq5 A n c p i)
   refine hK.out _ _ (Or.inr hH3) ?_
   clear hK K
   try simp only [Act.put, pu]
   refine dnY ?_
   go_wp2_with fail
   go_meet
   case rel => exact ⟨g2, rfl, hg2, hr3, hH3⟩
 case rest =>
  obtain ⟨b6, rfl, hb6, r6, hbw⟩ := hcut
  rename World => wq
  have hS4 := HSK.out _ hbw
  have hb4 := bnext hb3 hbw
  clear hbw HSK hS3 hb3
  have hst := store_new (ty := 146) (T := 146) wq #[.nilFunc, .nilFunc, .nilFunc, .nilFunc, .nilFunc, .nilFunc, .nilFunc, .nilFunc] Rq16 (by kernel_rfl) rfl (by decide +kernel)
  have hb6q := lt_of_block r6
  go_upto_region 5 with (fail)
  clear hst
  have hbn := nwB wq (.cells Rq16 146)
  have r7 := heap_alloc_new wq (.cells Rq16 146)
  have hS5 := hS4.below hbn
  have r65 := iNext r6 hbn
  have hb5 := bnext hb4 hbn
  clear hbn hS4 r6 hb4
  obtain ⟨b7, hb7⟩ : ∃ b7, b7 = wq.heap.size := ⟨_, rfl⟩
  rw [← hb7] at r7 hb6q ⊢
  have HB7 := hide hb7
  clear hb7
  generalize wq.alloc (.cells Rq16 146) = w5 at *
  clear HB7
  have c0 := (jC15 hS5.r2).1
  have k1 := (jC15 hS5.r2).2.1
  have hL6 := hide (range_of r65 0 (Rq5 A n c p i) rfl)
  go_wp2_with (with_reducible refine wpList_load_mid rfl 143 (.tmp 6) rfl b6 0 rfl _ _ hL6.out underlying143 rfl (by kernel_rfl) ?_)
  refine (item_of l A n c HL.out hn p (i : Int) p.id w5 hS5.its y HY.out).mono ?_
  rintro e w6 ⟨rfl, hbq⟩
  clear hL6 k1 c0
  have hS6 := hS5.below hbq
  have r66 := iNext r65 hbq
  have r76 := iNext r7 hbq
  have hb6' := bnext hb5 hbq
  clear hbq hS5 r65 r7 hb5
  have hst := store_new (ty := 51) (T := 51) w6 Rq1 (Rq4 y) (by kernel_rfl) rfl (all_oneCell_toArray (iLay.one y))
  go_upto_region 7 with (fail)
  clear hst
  have hbn := nwB w6 (.cells (Rq4 y) 51)
  have r8 := heap_alloc_new w6 (.cells (Rq4 y) 51)
  have hS7 := hS6.below hbn
  have r67 := iNext r66 hbn
  have r77 := iNext r76 hbn
  have hb7' := bnext hb6' hbn
  clear hbn hS6 r66 r76 hb6'
  obtain ⟨b8, hb8⟩ : ∃ b8, b8 = w6.heap.size := ⟨_, rfl⟩
  rw [← hb8] at r8 ⊢
  have HB8 := hide hb8
  clear hb8
  generalize w6.alloc (.cells (Rq4 y) 51) = w7 at *
  clear HB8
  have c0 := (jC15 hS7.r2).1
  obtain ⟨z0, z1, z2, z3, z4, z5, z6⟩ := iCells r8
  clear z1 z2 z3 z4 z5
  have yg := YG.out
  clear YG
  go_upto_region 14 with (fail)
  clear z0 z6 r8
  clear c0
  have HSK2 := hide (fun X (hX : Below w7.heap.size w7 X) => hS7.below hX)
  have HR6 := hide (fun X (hX : Below w7.heap.size w7 X) => iNext r67 hX)
  have HR7 := hide (fun X (hX : Below w7.heap.size w7 X) => iNext r77 hX)
  have hsz5 := lt_of_block hS7.r3
  refine wp_region_noPanic ?_
  refine wp_region_L (Below w7.heap.size w7) 8 hmx ?_
  have hH0 : (Below w7.heap.size w7) w7.drew := (Below.refl w7.heap.size w7).drew
  generalize w7.drew = u0 at *
  refine tU 0 12 hH0 rfl ?_
  refine tU 1 12 hH0 rfl ?_ (by intro wS hS; have c0 := (jC15 (HSK2.out _ hS).r2).1; go_simp; (try with_reducible rfl))
  refine tU 2 12 hH0 rfl ?_ (by intro wS hS; have hk := HK.out; go_simp; (try with_reducible rfl))
  refine tU 3 12 hH0 rfl ?_ (by intro wS hS; have cf := cell_of_row _ _ 2 _ _ (0, 0) (HR7.out _ hS); go_simp; (try with_reducible rfl))
  refine tkV 4 12 (.agg (Rq5 A n c p i)) rfl (by exact yieldsIf_load_mid (by rfl) 143 (.tmp 6) rfl b6 0 rfl (Rq5 A n c p i) _ (fun X hX => range_of (HR6.out X hX) 0 (Rq5 A n c p i) rfl) underlying143 rfl (by kernel_rfl)) hH0 ?_
  simp only [Act.put, pu]
  refine oY 5 fun K hK => ?_
  go_simp
  refine (words_of l A n c HL.out hn p i hil y HYI.out HLG.out HTZ.out HSZ.out HDZ.out u0 (HSK2.out _ hH0).its (HMJ.out.next (bnext hb7' hH0))).mono ?_
  rintro e u1 ⟨v', rfl, hO, hx1⟩
  have hH1 := hH0.trans (hx1.mono hH0.size)
  have hszu := hH0.size
  refine hK.out _ _ (Or.inr hH1) ?_
  clear hK K hx1
  try simp only [Act.put, pu]
  refine tU 6 12 hH1 rfl ?_
  refine tU 7 12 hH1 rfl ?_
  refine oY 8 fun K hK => ?_
  obtain ⟨A', c', hv', _, _⟩ := hO.row
  obtain ⟨m', hm'⟩ : ∃ m', (Dg.wordsP l p i y).1.length = m' := ⟨_, rfl⟩
  rw [hm'] at hv'
  clear hm'
  subst hv'
  have hst := store_part (ty := 24) u1 (w.heap.size + 1 + 1) 0 Rq3 (.agg #[.slice A' m' c']) #[.slice A' m' c'] (HSK2.out _ hH1).r3 infoCode1 (Nat.le_refl _) (one_code _ _ _) rfl
  have r25 := setRow_heap u1 (w.heap.size + 1 + 1) _ #[.slice A' m' c'] _ _ (HSK2.out _ hH1).r3
  have hb8 := below_setRow (bnext hb7' hH1) (by omega) (g := w.heap.size + 1 + 1) #[.slice A' m' c']
  have HO2 := hide (own_other hO (g := w.heap.size + 1 + 1) (fun e => by have := (World.ownsRow.lt hO _ e).1; omega) #[.slice A' m' c'])
  go_simp
  clear hst hO
  refine hK.out _ _ (Or.inl (by rfl)) ?_
  clear hK K hH1
  generalize u1.setRow (w.heap.size + 1 + 1) #[.slice A' m' c'] = u2 at *
  try simp only [Act.put, pu]
  refine oY 9 fun K hK => ?_
  go_simp
  refine hK.out _ _ (Or.inl (by rfl)) ?_
  clear hK K
  try simp only [Act.put, pu]
  refine dnY ?_
  have hsz0 : w.heap.size ≤ u0.heap.size := by have := hH0.size; omega
  go_wp2
  refine bodyPost_ret (results_c8 results34 _ _ (w.heap.size + 1 + 1) 24 #[.slice A' m' c'] (0, 0) _ rfl r25 underlying24 (by kernel_rfl)) rfl ⟨_, rfl, own_weak HO2.out (by omega), hb8⟩
structure PtM (p : Dg.Pt) : Prop where
 wide : PtW p
 src : p.src.size ≤ 1000000
 dst : p.dst.size ≤ 1000000
theorem apply_any (l : List Dg.It) (A : Option Addr) (n c : Nat) (hl : l.length = n) (hn : n ≤ 1048576) (hnc : n ≤ c) (hw : ∀ x ∈ l, ItW x) (p : Dg.Pt) (hpm : PtM p) (w : World) (hI : Its w w.heap.size A l) (hm : MaxJ w) :
  Calls Tryz.prog 34 #[.agg #[.slice A n c], .agg (Rq0 p)] w (ApR (Dg.applyW l p) w) := by
 have hp := hpm.wide
 have bt (a b : Int) (h : a = b) : (a == b) = true := beq_iff_eq.2 h
 have bf (a b : Int) (h : a ≠ b) : (a == b) = false := beq_eq_false_iff_ne.2 h
 have nt (a b : Int) (h : a ≠ b) : (a != b) = true := by rw [bne, bf a b h]; rfl
 have nf (a b : Int) (h : a = b) : (a != b) = false := by rw [bne, bt a b h]; rfl
 unfold Dg.applyW
 by_cases h2 : p.kind = 2
 ·rw [if_pos h2]
  have h1 : p.kind ≠ 1 := by rw [h2]; decide
  have h3 : p.kind ≠ 3 := by rw [h2]; decide
  have h4 : p.kind ≠ 4 := by rw [h2]; decide
  have h6 : p.kind ≠ 6 := by rw [h2]; decide
  cases hv : Dg.validC l with
  | false =>
   rw [if_pos (Or.inl rfl)]
   exact applyw_inv l A n c hl hn hw p hp h2 hv w hI
  | true =>
  cases hf : Dg.formed2 p with
  | false =>
   rw [if_pos (Or.inr rfl)]
   exact applyw_unf l A n c hl hn hw p hp h2 hv hf w hI
  | true =>
  rw [if_neg (fun h => by rcases h with h | h <;> cases h)]
  cases hi : Dg.idxI l p.id with
  | none =>
   have hy : Dg.itemA l p.id = Dg.zeroI := by unfold Dg.itemA; rw [hi]
   exact applyw_none l A n c hl hn hw p hp h2 hv _ hy hf (nt _ _ h1) rfl w hI
  | some i =>
   obtain ⟨hil, hid⟩ := Dg.idxI_some hi
   obtain ⟨y, hyd⟩ : ∃ y, l.getD i Dg.zeroI = y := ⟨_, rfl⟩
   have hy : Dg.itemA l p.id = y := by unfold Dg.itemA; rw [hi]; exact hyd
   have hyl : y ∈ l := by
    rw [← hyd, List.getD_eq_getElem?_getD, List.getElem?_eq_getElem hil, Option.getD_some]
    exact List.getElem_mem hil
   have hpr := Dg.valid_proper hv y hyl
   have y0 : (y.kind == 0) = false := bf _ _ (fun e => by
    rcases Dg.proper_kind hpr with h | h
    ·rw [h.1] at e; cases e
    ·rw [h.1] at e; cases e)
   show Calls Tryz.prog 34 #[.agg #[.slice A n c], .agg (Rq0 p)] w (ApR (if (l.getD i Dg.zeroI).kind = 1 then ([], 11) else _) w)
   rw [hyd]
   by_cases ha : y.kind = 1
   ·rw [if_pos ha]
    exact applyw_art l A n c hl hn hw p hp h2 hv y hy hf (nt _ _ h1) y0 (bt _ _ ha) (nt _ _ h3) (nt _ _ h4) w hI
   rw [if_neg ha]
   by_cases hg : y.gone = true
   ·rw [if_pos hg]
    exact applyw_gone l A n c hl hn hw p hp h2 hv y hy hf (nt _ _ h1) y0 (bf _ _ ha) (bf _ _ h6) (nt _ _ h6) hg w hI
   rw [if_neg hg]
   have hlg : p.lang = 1 ∨ p.lang = 2 := by
    unfold Dg.formed2 at hf
    rw [Bool.and_eq_true, Bool.and_eq_true] at hf
    exact of_decide_eq_true hf.2.2
   have hz := Dg.proper_len hpr
   exact applyw_do l A n c hl hn hw p hp h2 hv y hy hf i hi h2 y0 (bf _ _ ha) (by cases h9 : y.gone with | false => rfl | true => exact absurd h9 hg) hlg ⟨by omega, by omega⟩ hpm.src hpm.dst w hI hm
 ·rw [if_neg h2]
  exact apply_of l A n c hl hn hnc hw p hp h2 w hI
attribute [-go_sem] Instr.storeAt in
theorem all_go (l : List Dg.It) (A : Option Addr) (n c : Nat) (hl : l.length = n) (hnc : n ≤ c) (hv : Dg.validC l = true) (ps : List Dg.Pt) (AP : Option Addr) (m cm : Nat) (hm : ps.length = m) (hm2 : m ≤ 1048576) (hps : ∀ p ∈ ps, PtM p) (Q : List Dg.It × Int) (hQ : Dg.allG l ps = Q) (w : World) (hI : Its w w.heap.size A l) (hP : Row1 ptL w w.heap.size AP ps) (hmj : MaxJ w) :
  Calls Tryz.prog 16 #[.agg #[.slice A n c], .slice AP m cm] w fun e w' => ∃ v' j, e = .returned (.tuple #[.agg #[v'], .int .i64 j, .int .i64 Q.2]) ∧ Own1 iLay 51 w' w.heap.size v' Q.1 ∧ Below w.heap.size w w' := by
 obtain ⟨r1, r2, hb, hs⟩ := iAlloc2 w (.cells #[.slice A n c] 24) (.cells Rq3 24)
 have hS1 : AllS w.heap.size A n c l ((w.alloc (.cells #[.slice A n c] 24)).alloc (.cells Rq3 24)) := ⟨r1, r2, hI.keep hb, fun h0 ad had => by
   obtain ⟨b, off, e, hlt, _⟩ := hI.at_ h0
   rw [had] at e
   cases e
   exact ⟨by show b ≠ _; omega, by show b ≠ _; omega⟩, hl, hnc, hv⟩
 have hP1 := hP.below hb
 have HP := hide hP1; have HM := hide hm; have HPS := hide hps; have HQ := hide hQ; have HMJ := hide hmj; have HV := hide hv; have HL := hide hl
 have hn := valid_len hv
 have hn2 : n ≤ 1048576 := by omega
 clear r1 r2 hs hI hP hP1 hl hm hps hQ hv hn hmj
 have c1 := iCells0 hS1.r1
 go_enter func16, ntmps16
 go_wp2_with fail
 generalize (w.alloc (.cells #[.slice A n c] 24)).alloc (.cells Rq3 24) = w1 at *
 refine (Code.valid_of l A n c HL.out (valid_itw HV.out) hn2 w1 hS1.its true HV.out).mono ?_
 rintro e w2 ⟨rfl, hbq⟩
 have hS2 := hS1.below hbq
 have hb2 := bnext hb hbq
 have HP2 := hide (HP.out.below (hbq.mono hb.size))
 clear hbq hS1 hb c1 HP
 go_wp2
 go_loopw [17] (fun iv wr => ∃ (k : Nat) (A' : Option Addr) (n' c' : Nat) (lk : List Dg.It), k ≤ m ∧ iv = .int .i64 k ∧ Hid (AllS w.heap.size A' n' c' lk wr) ∧ Hid (Dg.allG lk (ps.drop k) = Q) ∧ Hid (Row1 ptL wr w.heap.size AP ps) ∧ Hid (Below w.heap.size w wr)) (fun iv _ => m - (intOf iv).toNat)
 case atStart => exact ⟨0, A, n, c, l, by omega, rfl, hide hS2, by rw [List.drop_zero]; exact HQ, HP2, hide hb2⟩
 case round =>
  clear hS2 hb2 HP2
  obtain ⟨k, A', n', c', lk, hk, rfl, hS, hR, hPr, hB⟩ := hrel
  by_cases hlt : k < m
  ·have hkl : k < ps.length := by rw [HM.out]; exact hlt
   obtain ⟨bp, op, hAP⟩ := hPr.out.someP (by omega)
   subst hAP
   obtain ⟨p, hp⟩ : ∃ p, ps[k] = p := ⟨_, rfl⟩
   have hRP := hide (row_range hPr.out hkl p hp)
   have hpw := HPS.out p (by rw [← hp]; exact List.getElem_mem hkl)
   have hdr : ps.drop k = p :: ps.drop (k + 1) := by rw [List.drop_eq_getElem_cons hkl, hp]
   have hrun := hR.out
   rw [hdr, Dg.allG] at hrun
   obtain ⟨lk1, K, hap⟩ : ∃ lk1 K, Dg.applyW lk p = (lk1, K) := ⟨_, _, rfl⟩
   rw [hap] at hrun
   replace hrun : (if K = 0 then Dg.allG lk1 (ps.drop (k + 1)) else (([], K) : List Dg.It × Int)) = Q := hrun
   have HRun0 := hide hrun
   have HPW := hide hpw; have HAP := hide hap
   clear hdr hrun hap hpw hp hkl hR
   have hn' : n' ≤ 1048576 := by have := valid_len hS.out.val; have := hS.out.len; omega
   have hst := store_new (ty := 53) (T := 53) wr Rq2 (Rq0 p) (by kernel_rfl) rfl (all_oneCell_toArray (ptL.one p))
   have j0 : (0 : Int) ≤ (k : Int) := by omega
   have j1 : (k : Int) < (m : Int) := by omega
   go_upto_region 6 with (with_reducible refine wpList_load_mid rfl 53 (.tmp 20) rfl bp (op + k * 15) rfl _ _ hRP.out underlying53 rfl (by kernel_rfl) ?_)
   clear hst hRP
   have hbn := nwB wr (.cells (Rq0 p) 53)
   have r8 := heap_alloc_new wr (.cells (Rq0 p) 53)
   have hS3 := hS.out.below hbn
   have hB3 := hide (bnext hB.out hbn)
   have HP3 := hide (hPr.out.below (hbn.mono hB.out.size))
   have hsz3 := lt_of_block hS.out.r2
   clear hbn hS hB hPr
   obtain ⟨b8, hb8⟩ : ∃ b8, b8 = wr.heap.size := ⟨_, rfl⟩
   rw [← hb8] at r8 hsz3 ⊢
   have HB8 := hide hb8
   clear hb8
   generalize wr.alloc (.cells (Rq0 p) 53) = w3 at *
   clear HB8
   have c1 := iCells0 hS3.r1
   have hR8 := hide (range_of r8 0 (Rq0 p) rfl)
   go_wp2_with (with_reducible refine wpList_load_mid rfl 53 (.tmp 8) rfl b8 0 rfl _ _ hR8.out underlying53 rfl (by kernel_rfl) ?_)
   refine (apply_any lk A' n' c' hS3.len hn' hS3.cap (valid_itw hS3.val) p HPW.out w3 hS3.its (HMJ.out.next hB3.out)).mono ?_
   rintro e w4 ⟨v', rfl, hO, hbq⟩
   clear hR8 c1
   rw [HAP.out] at hO ⊢
   obtain ⟨A1, cc1, hv', hrow, hcap⟩ := hO.row
   obtain ⟨n1, hn1⟩ : ∃ n1, lk1.length = n1 := ⟨_, rfl⟩
   have hv'' : v' = .slice A1 n1 cc1 := by rw [hv', ← hn1]
   subst hv''
   have HN1 := hide hn1
   have hwh := own_where hO
   have HW1 := hide hwh
   have HI1 := hide hrow.its
   have HC1 := hide (show n1 ≤ cc1 by rw [← hn1]; exact hcap)
   clear hn1 hv' hrow hcap hwh hO
   have hS4 := hS3.below hbq
   have hB4 := hide (bnext hB3.out hbq)
   have HP4 := hide (HP3.out.below (hbq.mono hB3.out.size))
   have hsz4 := hbq.size
   have hl8 := lt_of_block r8
   clear hbq hS3 hB3 HP3 r8
   by_cases hK0 : K = 0
   ·subst hK0
    have hv1 : Dg.validC lk1 = true := Dg.applyW_valid HAP.out
    have HV1 := hide hv1
    have HRun := hide (show Dg.allG lk1 (ps.drop (k + 1)) = Q by rw [← HRun0.out, if_pos rfl])
    clear hv1 HRun0 HAP
    have hst := store_new (ty := 24) (T := 24) w4 Rq3 #[.slice A1 n1 cc1] infoCode1 rfl (by simp [Value.oneCell'])
    go_upto_region 9 with (fail)
    clear hst
    have hbn := nwB w4 (.cells #[.slice A1 n1 cc1] 24)
    have r9 := heap_alloc_new w4 (.cells #[.slice A1 n1 cc1] 24)
    have hS5 := hS4.below hbn
    have hB5 := hide (bnext hB4.out hbn)
    have HP5 := hide (HP4.out.below (hbn.mono hB4.out.size))
    have HI5 := hide (HI1.out.keep hbn)
    clear hbn hS4 hB4 HP4 HI1
    obtain ⟨b9, hb9⟩ : ∃ b9, b9 = w4.heap.size := ⟨_, rfl⟩
    rw [← hb9] at r9 ⊢
    have HB9 := hide hb9
    clear hb9
    generalize w4.alloc (.cells #[.slice A1 n1 cc1] 24) = w5 at *
    have c9 := iCells0 r9
    have hst := store_part (ty := 24) w5 w.heap.size 0 #[.slice A' n' c'] (.agg #[.slice A1 n1 cc1]) #[.slice A1 n1 cc1] hS5.r1 infoCode1 (Nat.le_refl _) (one_code _ _ _) rfl
    have q1 := setRow_heap w5 w.heap.size _ #[.slice A1 n1 cc1] _ _ hS5.r1
    have q2 := (setRow_other w5 w.heap.size (w.heap.size + 1) #[.slice A1 n1 cc1] (by omega)).trans hS5.r2
    have hB6 := hide (below_setRow hB5.out (Nat.le_refl _) (g := w.heap.size) #[.slice A1 n1 cc1])
    have HP6 : Hid (Row1 ptL (w5.setRow w.heap.size #[.slice A1 n1 cc1]) w.heap.size (some ⟨bp, op, none⟩) ps) := hide (HP5.out.below (below_setRow (Below.refl w.heap.size w5) (Nat.le_refl _) #[.slice A1 n1 cc1]))
    have HI6 := its_off HI5.out (g := w.heap.size) (fun _ ad had => by have := (HW1.out ad had).1; omega) #[.slice A1 n1 cc1]
    have hsz6 : (w5.setRow w.heap.size #[.slice A1 n1 cc1]).heap.size = w5.heap.size := by simp [World.setRow]
    rw [← hsz6] at HI6
    have hS6 := hide (AllS.mk (b1 := w.heap.size) q1 q2 HI6 (fun _ ad had => by have := (HW1.out ad had).1; omega) HN1.out HC1.out HV1.out)
    clear hsz6 q1 q2 HI6 hS5 hB5 HP5 HI5
    go_wp2
    go_roundw
    case rel => exact ⟨k + 1, A1, n1, cc1, lk1, by omega, by go_num, hS6, HRun, HP6, hB6⟩
    case measure => simp [intOf]; omega
   ·have hst := store_new (ty := 24) (T := 24) w4 Rq3 #[.slice A1 n1 cc1] infoCode1 rfl (by simp [Value.oneCell'])
    have hKb : (K != 0) = true := by rw [bne, beq_eq_false_iff_ne.2 hK0]; rfl
    go_upto_region 8 with (fail)
    clear hst
    have hbn := nwB w4 (.cells #[.slice A1 n1 cc1] 24)
    have hS5 := hS4.below hbn
    have hB5 := hide (bnext hB4.out hbn)
    have hl2 := lt_of_block hS4.r2
    clear hbn hS4 hB4 HP4 HI1
    generalize w4.alloc (.cells #[.slice A1 n1 cc1] 24) = w5 at *
    have hst := store_part (ty := 24) w5 (w.heap.size + 1) 0 Rq3 (.agg Rq3) Rq3 hS5.r2 infoCode1 (Nat.le_refl _) (one_code _ _ _) rfl
    have r25 := setRow_heap w5 (w.heap.size + 1) _ Rq3 _ _ hS5.r2
    have hb8 := hide (below_setRow hB5.out (by omega) (g := w.heap.size + 1) Rq3)
    have HRun := hide (show (([], K) : List Dg.It × Int) = Q by rw [← HRun0.out, if_neg hK0])
    clear hS5 hB5 HRun0 HAP
    go_wp2
    refine bodyPost_ret (results_c9 results16 _ _ (w.heap.size + 1) 24 #[.slice none 0 0] (0, 0) _ rfl r25 underlying24 (by kernel_rfl)) rfl ⟨.slice none 0 0, _, by rw [← HRun.out]; rfl, by rw [← HRun.out]; exact Own1.nil _ _ _ _, hb8.out⟩
  ·obtain rfl : k = m := by omega
   have hlk : (lk, (0 : Int)) = Q := by
    have h := hR.out
    rw [List.drop_of_length_le (by rw [HM.out]; exact Nat.le_refl _)] at h
    exact h
   subst hlk
   have hn' : n' ≤ 1048576 := by have := valid_len hS.out.val; have := hS.out.len; omega
   have c1 := iCells0 hS.out.r1
   go_wp2_with fail
   refine (cloneI_any A' n' c' lk wr hS.out.len (by omega) hS.out.its).mono ?_
   rintro e w3 ⟨v', rfl, hO, hbq⟩
   clear c1
   obtain ⟨A1, cc1, hv', _, _⟩ := hO.row
   rw [hS.out.len] at hv'
   subst hv'
   have hl2 := lt_of_block hS.out.r2
   have q2 := iNext hS.out.r2 hbq
   have hB3 := hide (bnext hB.out hbq)
   clear hbq
   have hst := store_part (ty := 24) w3 (w.heap.size + 1) 0 Rq3 (.agg #[.slice A1 n' cc1]) #[.slice A1 n' cc1] q2 infoCode1 (Nat.le_refl _) (one_code _ _ _) rfl
   have r25 := setRow_heap w3 (w.heap.size + 1) _ #[.slice A1 n' cc1] _ _ q2
   have hb8 := hide (below_setRow hB3.out (by omega) (g := w.heap.size + 1) #[.slice A1 n' cc1])
   have HO2 := hide (own_other hO (g := w.heap.size + 1) (fun e => by have := (World.ownsRow.lt hO _ e).1; omega) #[.slice A1 n' cc1])
   clear hO q2 hB3
   go_wp2
   refine bodyPost_ret (results_c9 results16 _ _ (w.heap.size + 1) 24 #[.slice A1 n' cc1] (0, 0) _ rfl r25 underlying24 (by kernel_rfl)) rfl ⟨_, ⟨_, rfl⟩, own_weak HO2.out (by omega), hb8.out⟩
attribute [-go_sem] Instr.storeAt in
theorem all_inv (l : List Dg.It) (A : Option Addr) (n c : Nat) (hl : l.length = n) (hn : n ≤ 1048576) (hw : ∀ x ∈ l, ItW x) (hv : Dg.validC l = false) (AP : Option Addr) (m cm : Nat) (w : World) (hI : Its w w.heap.size A l) :
  Calls Tryz.prog 16 #[.agg #[.slice A n c], .slice AP m cm] w fun e w' => ∃ v' j, e = .returned (.tuple #[.agg #[v'], .int .i64 j, .int .i64 1]) ∧ Own1 iLay 51 w' w.heap.size v' [] ∧ Below w.heap.size w w' := by
 obtain ⟨r1, r2, hb, hs⟩ := iAlloc2 w (.cells #[.slice A n c] 24) (.cells Rq3 24)
 have hI1 := hI.keep hb
 have HL := hide hl; have HW := hide hw; have HV := hide hv
 clear hI hl hw hv
 have c1 := iCells0 r1
 go_enter func16, ntmps16
 go_wp2_with fail
 generalize (w.alloc (.cells #[.slice A n c] 24)).alloc (.cells Rq3 24) = w1 at *
 refine (Code.valid_of l A n c HL.out HW.out hn w1 hI1 false HV.out).mono ?_
 rintro e w2 ⟨rfl, hbq⟩
 have r22 := iNext r2 hbq
 have hb2 := bnext hb hbq
 have hst := store_part (ty := 24) w2 (w.heap.size + 1) 0 Rq3 (.agg Rq3) Rq3 r22 infoCode1 (Nat.le_refl _) (one_code _ _ _) rfl
 have r25 := setRow_heap w2 (w.heap.size + 1) _ Rq3 _ _ r22
 have hb8 := hide (below_setRow hb2 (by omega) (g := w.heap.size + 1) Rq3)
 clear r1 r2 hb hs c1 hI1 hbq r22 hb2
 go_wp2
 refine bodyPost_ret (results_c9 results16 _ _ (w.heap.size + 1) 24 #[.slice none 0 0] (0, 0) _ rfl r25 underlying24 (by kernel_rfl)) rfl ⟨.slice none 0 0, _, rfl, Own1.nil _ _ _ _, hb8.out⟩
theorem all_any (l : List Dg.It) (A : Option Addr) (n c : Nat) (hl : l.length = n) (hnc : n ≤ c) (hn : n ≤ 1048576) (hw : ∀ x ∈ l, ItW x) (ps : List Dg.Pt) (AP : Option Addr) (m cm : Nat) (hm : ps.length = m) (hm2 : m ≤ 1048576) (hps : ∀ p ∈ ps, PtM p) (w : World) (hI : Its w w.heap.size A l) (hP : Row1 ptL w w.heap.size AP ps) (hmj : MaxJ w) :
  Calls Tryz.prog 16 #[.agg #[.slice A n c], .slice AP m cm] w fun e w' => ∃ v' j, e = .returned (.tuple #[.agg #[v'], .int .i64 j, .int .i64 (Dg.allW l ps).2]) ∧ Own1 iLay 51 w' w.heap.size v' (Dg.allW l ps).1 ∧ Below w.heap.size w w' := by
 unfold Dg.allW
 cases hv : Dg.validC l with
 | false =>
  rw [if_pos rfl]
  exact all_inv l A n c hl hn hw hv AP m cm w hI
 | true =>
  rw [if_neg (by decide)]
  exact all_go l A n c hl hnc hv ps AP m cm hm hm2 hps _ rfl w hI hP hmj
theorem cloneC_any (A : Option Addr) (n c : Nat) (l : List Dg.Cl) (w : World) (hn : l.length = n) (hb : n ≤ 2000000) (B : Nat) (hI : Row1 clL w B A l) (hB : B ≤ w.heap.size) :
  Calls Tryz.prog 50 #[.slice A n c] w fun e w' => ∃ v', e = .returned v' ∧ Own1 clL 55 w' w.heap.size v' l ∧ Below w.heap.size w w' := by
 subst hn
 go_enter func50, ntmps50
 have hnil : ∀ (w : World) (a : Option Addr) (l c : Nat), (binOp .eql 30 (.slice a l c) (.slice none 0 0)).run Tryz.prog w = .ok (.bool a.isNone) w := fun w a l c => Lib.run_eql_slice_nil w _ _ a l c 0 0 underlying30
 cases A with
 | none =>
  have h0 : l = [] := by
   rcases Nat.eq_zero_or_pos l.length with h0 | h0
   ·exact List.length_eq_zero_iff.1 h0
   ·obtain ⟨_, _, e, _⟩ := hI.at_ h0
    cases e
  subst h0
  go_wp2
  go_ret
  exact ⟨_, rfl, Own1.nil clL _ _ _, Below.refl _ _⟩
 | some ad =>
  go_wp2_with (at_builtin; go_loud (refine step_app1 (L := clL) rfl (.tmp 5) (.tmp 6) 30 55 _ 248 rfl underlying30 clauseInfo rfl (by decide) w.heap.size w.heap.size _ [] l rfl (Own1.emptyLit clL _ w _ (Nat.le_refl _)) (some ad) l.length c rfl rfl ((hI.more hB).below ((Below.refl _ w).alloc (Nat.le_refl _) _)) (by rw [List.length_nil]; omega) (by omega) (by rw [World.size_alloc]; omega) ?_))
  intro v1 w1 h1 h2 _ _
  have hB := hide (((Below.refl _ w).alloc (Nat.le_refl _) (.cells #[] 55)).trans h2)
  clear h2
  go_wp2
  go_ret
  exact ⟨_, rfl, h1, hB.out⟩
theorem openF_any (x : Dg.Cl) (w : World) :
  Calls Tryz.prog 60 #[.agg (clC x)] w fun e w' => e = .returned (.bool x.gone) ∧ Below w.heap.size w w' := by
 have r1 := heap_alloc_new w (.cells (clC x) 55)
 have hb := nwB w (.cells (clC x) 55)
 have c19 : (w.alloc (.cells (clC x) 55)).cell? ⟨w.heap.size, 19, none⟩ = some (.bool x.gone) := by
  rw [cell_of_row _ _ _ _ _ (0, 0) r1]
  rfl
 go_enter func60, ntmps60
 go_wp2
 go_ret
 exact ⟨rfl, hb⟩
def GnI (l : List Dg.Cl) (ix : Int) : Prop := (ix = -1 ∧ ∀ (j : Nat) (hj : j < l.length), l[j].gone = false) ∨ ∃ (k : Nat) (hk : k < l.length), ix = (k : Int) ∧ l[k].gone = true ∧ ∀ (j : Nat) (hj : j < l.length), j < k → l[j].gone = false
theorem ixg_of (v : Value) (l : List Dg.Cl) (B : Nat) (X : World) (hO : Own1 clL 55 X B v l) (hl : l.length ≤ 1000000) :
  Calls Tryz.prog 85 #[v, .func (.func 60) #[] #[]] X fun e Y => (∃ ix, e = .returned (.int .i64 ix) ∧ GnI l ix) ∧ Below X.heap.size X Y := by
 obtain ⟨A, c, rfl, _, _⟩ := hO.row
 obtain ⟨n, hn⟩ : ∃ n, l.length = n := ⟨_, rfl⟩
 rw [hn] at hO hl ⊢
 have HO := hide hO; have HN := hide hn
 clear hO hn
 go_enter func85, ntmps85
 go_wp2
 go_loopw [8] (fun iv wr => ∃ k : Nat, k ≤ n ∧ iv = .int .i64 k ∧ Hid (Below X.heap.size X wr ∧ ∀ (j : Nat) (hj : j < l.length), j < k → l[j].gone = false)) (fun iv _ => n - (intOf iv).toNat)
 case atStart => exact ⟨0, Nat.zero_le _, rfl, hide ⟨Below.refl _ _, fun _ _ h => absurd h (Nat.not_lt_zero _)⟩⟩
 case round =>
  obtain ⟨k, hk, rfl, HK⟩ := hrel
  by_cases hlt : k < n
  ·have hkl : k < l.length := by rw [HN.out]; exact hlt
   have hOw := HO.out.below HK.out.1
   obtain ⟨g, cap', sp, hvg, _, _, hgr, _, _, _⟩ := hOw.form (by omega)
   injection hvg with hvg hv8 hv9
   subst hvg
   clear hv8 hv9
   obtain ⟨x, hx⟩ : ∃ x, l[k] = x := ⟨_, rfl⟩
   have hrg := range_of hgr (k * 20) (clC x).toList (by rw [← hx]; exact flat_at l sp k hkl)
   have HRG := hide hrg; have HX := hide hx; have HKL := hide hkl
   clear hrg hx hOw hgr
   go_wp2_with (with_reducible refine wpList_load_mid rfl 55 (.tmp 14) rfl g (k * 20) rfl _ _ HRG.out underlying55 rfl (by kernel_rfl) ?_)
   refine (openF_any x wr).mono ?_
   rintro e Y ⟨rfl, hb⟩
   cases hR : x.gone with
   | true =>
    have HB := hide (HK.out.1.trans (hb.mono HK.out.1.size))
    have HT := hide hR
    clear hb hR HRG
    go_wp2
    go_ret
    exact ⟨⟨_, rfl, .inr ⟨k, HKL.out, rfl, by rw [HX.out]; exact HT.out, HK.out.2⟩⟩, HB.out⟩
   | false =>
    have HB := hide (⟨HK.out.1.trans (hb.mono HK.out.1.size), fun j hj hjk => by
     by_cases e : j = k
     ·subst e
      rw [HX.out]
      exact hR
     ·exact HK.out.2 j hj (by omega)⟩ : Below X.heap.size X Y ∧ ∀ (j : Nat) (hj : j < l.length), j < k + 1 → l[j].gone = false)
    clear hb hR HRG
    go_wp2_with fail
    go_roundw
    case rel => exact ⟨k + 1, by omega, by go_num, HB⟩
    case measure => simp [intOf]; omega
  ·obtain rfl : k = n := by omega
   go_wp2
   go_ret
   exact ⟨⟨_, rfl, .inl ⟨rfl, fun j hj => HK.out.2 j hj (by rw [← HN.out]; exact hj)⟩⟩, HK.out.1⟩
theorem zeroClv : ∀ w, (zeroValue 55).run Tryz.prog w = .ok (.agg Rq17) w := Tryz.zeroValue55
theorem open_take {l : List Dg.Cl} {k : Nat} (h : ∀ (j : Nat) (hj : j < l.length), j < k → l[j].gone = false) : Dg.openL (l.take k) = l.take k := by
 unfold Dg.openL
 rw [List.filter_eq_self]
 intro a ha
 obtain ⟨j, hj, rfl⟩ := List.getElem_of_mem ha
 rw [List.length_take] at hj
 rw [List.getElem_take, h j (by omega) (by omega)]
 rfl
theorem open_next {l : List Dg.Cl} {k : Nat} (hk : k < l.length) : Dg.openL (l.take (k + 1)) = if l[k].gone = true then Dg.openL (l.take k) else Dg.openL (l.take k) ++ [l[k]] := by
 unfold Dg.openL
 rw [List.take_succ_eq_append_getElem hk, List.filter_append]
 cases h : l[k].gone with
 | true => rw [if_pos rfl, List.filter_cons_of_neg (by rw [h]; decide), List.filter_nil, List.append_nil]
 | false => rw [if_neg (by decide), List.filter_cons_of_pos (by rw [h]; rfl), List.filter_nil]
theorem drop_next {α : Type} {R l : List α} {j : Nat} (h : R.drop j = l.drop j) : R.drop (j + 1) = l.drop (j + 1) := by rw [← List.tail_drop, ← List.tail_drop, h]
structure DelI (g cap B i j : Nat) (l : List Dg.Cl) (sp : List Value) (X Y : World) : Prop where
 row : ∃ R : List Dg.Cl, R.length = l.length ∧ R.take i = Dg.openL (l.take j) ∧ R.drop j = l.drop j ∧ Y.heap[g]? = some (.cells (clL.flat R ++ sp).toArray 55 (0, 0))
 lt : i < j
 below : Below B X Y
attribute [-go_sem] Instr.storeAt in
theorem delg_of (v : Value) (l : List Dg.Cl) (B : Nat) (X : World) (hO : Own1 clL 55 X B v l) (hl : l.length ≤ 1000000) (hB : B ≤ X.heap.size) :
  Calls Tryz.prog 59 #[v, .func (.func 60) #[] #[]] X fun e Y => ∃ v', e = .returned v' ∧ Own1 clL 55 Y B v' (Dg.openL l) ∧ Below B X Y := by
 obtain ⟨A, c, rfl, _, _⟩ := hO.row
 obtain ⟨n, hn⟩ : ∃ n, l.length = n := ⟨_, rfl⟩
 have HIX := hide (ixg_of _ l B X hO hl)
 rw [hn] at hO hl HIX ⊢
 have HO := hide hO; have HN := hide hn
 clear hO hn
 go_enter func59, ntmps59
 go_wp2_with fail
 refine HIX.out.mono ?_
 rintro e X1 ⟨⟨ix, rfl, hix⟩, hb1⟩
 clear HIX
 rcases hix with ⟨rfl, hno⟩ | ⟨i0, hi0, rfl, hg0, hno⟩
 ·have hop : Dg.openL l = l := by
   have := open_take (l := l) (k := l.length) fun j hj _ => hno j hj
   rwa [List.take_length] at this
  have HB := hide (hb1.mono hB); have HO1 := hide (HO.out.below hb1); have HOP := hide hop
  clear hb1 hop hno
  go_wp2
  go_ret
  exact ⟨_, rfl, by rw [HOP.out]; exact HO1.out, HB.out⟩
 ·have hO1 := HO.out.below hb1
  obtain ⟨g, cap, sp, hvg, hBg, hgl, hgr, hcn, hcm, hsp⟩ := hO1.form (by omega)
  injection hvg with hvg hv8 hv9
  subst hvg hv9
  clear hv8
  rw [HN.out] at hi0 hcn hsp
  have hne : ¬ ((i0 : Int) = -1) := by omega
  have hneb : ((i0 : Int) == -1) = false := beq_eq_false_iff_ne.2 hne
  have hcap : c ≤ 9223372036854775807 := by unfold maxLen at hcm; omega
  have HD := hide (⟨⟨l, rfl, by
   rw [open_next (by rw [HN.out]; exact hi0), if_pos hg0, open_take hno], rfl, hgr⟩, by omega, hb1.mono hB⟩ : DelI g c B i0 (i0 + 1) l sp X X1)
  have HSP := hide hsp; have HCM := hide hcm
  clear hb1 hO1 hgr hsp hno hg0 hcm hgl
  go_wp2_with fail
  go_loopw [5, 6] (fun iv jv wr => ∃ i j : Nat, j ≤ n ∧ iv = .int .i64 i ∧ jv = .int .i64 j ∧ Hid (DelI g c B i j l sp X wr)) (fun _ jv _ => n - (intOf jv).toNat)
  case atStart => exact ⟨i0, i0 + 1, by omega, rfl, by go_num, HD⟩
  case round =>
   clear HD
   obtain ⟨i, j, hj, rfl, rfl, HD⟩ := hrel
   have hij := HD.out.lt
   by_cases hlt : j < n
   ·have hjl : j < l.length := by rw [HN.out]; exact hlt
    obtain ⟨R, hRl, hRt, hRd, hRg⟩ := HD.out.row
    have hjR : j < R.length := by omega
    obtain ⟨x, hx⟩ : ∃ x, l[j] = x := ⟨_, rfl⟩
    have hRx : R[j] = x := by
     have h1 := List.drop_eq_getElem_cons hjR
     have h2 := List.drop_eq_getElem_cons hjl
     rw [hRd, h2] at h1
     injection h1 with h1
     rw [← h1, hx]
    have hrg := range_of hRg (j * 20) (clC x).toList (by rw [← hRx]; exact flat_at R sp j hjR)
    have HRG := hide hrg
    have hst := store_newcl wr x
    have hbn := nwB wr (.cells (clC x) 55)
    have r7 := heap_alloc_new wr (.cells (clC x) 55)
    have rg := iNext hRg hbn
    have hgw := lt_of_block hRg
    have hBw : B ≤ wr.heap.size := by omega
    have HR := hide (And.intro hRl (And.intro hRt hRd)); have HX := hide hx; have HRGR := hide rg; have HR7 := hide r7
    have HB := hide (HD.out.below.trans (hbn.mono hBw))
    clear hrg hbn r7 rg hRl hRt hRd hRg hx hRx HD
    go_upto_region 8 with (with_reducible refine wpList_load_mid rfl 55 (.tmp 24) rfl g (j * 20) rfl _ _ HRG.out underlying55 rfl (by kernel_rfl) ?_)
    clear hst HRG
    obtain ⟨b7, hb7⟩ : ∃ b7, b7 = wr.heap.size := ⟨_, rfl⟩
    rw [← hb7] at HR7 hgw hBw ⊢
    clear hb7
    generalize wr.alloc (.cells (clC x) 55) = w5 at *
    have HL7 := hide (range_of HR7.out 0 (clC x).toList rfl)
    go_wp2_with (with_reducible refine wpList_load_mid rfl 55 (.tmp 7) rfl b7 0 rfl _ _ HL7.out underlying55 rfl (by kernel_rfl) ?_)
    refine (openF_any x w5).mono ?_
    rintro e w6 ⟨rfl, hb6⟩
    have rg := iNext HRGR.out hb6
    have r7 := iNext HR7.out hb6
    have hb7s := lt_of_block HR7.out
    have HB6 := hide (HB.out.trans (hb6.mono (by omega)))
    clear HL7 HB HRGR HR7 hb6
    cases hxg : x.gone with
    | true =>
     have HD1 := hide (⟨⟨R, HR.out.1, by rw [open_next hjl, HX.out, if_pos hxg]; exact HR.out.2.1, drop_next HR.out.2.2, rg⟩, by omega, HB6.out⟩ : DelI g c B i (j + 1) l sp X w6)
     clear hxg rg r7 HB6 HR
     go_wp2_with fail
     go_roundw
     case rel => exact ⟨i, j + 1, by omega, rfl, by go_num, HD1⟩
     case measure => simp [intOf]; omega
    | false =>
     have hin : i < n := by omega
     have hst : (Instr.storeAt 55 (.pointer (some ⟨g, i * 20, none⟩)) (.agg (clC x))).run Tryz.prog w6 = .ok () (w6.setRow g (clL.flat (R.set i x) ++ sp).toArray) := store_elem clL w6 g R sp i (by rw [HR.out.1, HN.out]; exact hin) x (clC x) rfl rg (by kernel_rfl)
     have hr9 := setRow_heap w6 g _ (clL.flat (R.set i x) ++ sp).toArray _ _ rg
     have hb9 := below_setRow HB6.out hBg (clL.flat (R.set i x) ++ sp).toArray
     have HD1 := hide (⟨⟨R.set i x, by rw [List.length_set]; exact HR.out.1, by
      rw [open_next hjl, HX.out, if_neg (by rw [hxg]; decide), ← HR.out.2.1, List.take_succ_eq_append_getElem (by rw [List.length_set, HR.out.1, HN.out]; exact hin), List.getElem_set_self, List.take_set_of_le (Nat.le_refl _)], by
      rw [List.drop_set_of_lt (by omega)]
      exact drop_next HR.out.2.2, hr9⟩, by omega, hb9⟩ : DelI g c B (i + 1) (j + 1) l sp X (w6.setRow g (clL.flat (R.set i x) ++ sp).toArray))
     have HL7 := hide (range_of r7 0 (clC x).toList rfl)
     have i0' : (0 : Int) ≤ (i : Int) := by omega
     have i1' : (i : Int) < (n : Int) := by omega
     clear hxg rg r7 HB6 HR hr9 hb9
     go_upto_region 10 with (with_reducible refine wpList_load_mid rfl 55 (.tmp 7) rfl b7 0 rfl _ _ HL7.out underlying55 rfl (by kernel_rfl) ?_)
     clear hst HL7
     generalize w6.setRow g (clL.flat (R.set i x) ++ sp).toArray = w7 at *
     go_wp2_with fail
     go_roundw
     case rel => exact ⟨i + 1, j + 1, by omega, by go_num, by go_num, HD1⟩
     case measure => simp [intOf]; omega
   ·obtain rfl : j = n := by omega
    obtain ⟨R, hRl, hRt, hRd, hRg⟩ := HD.out.row
    have hin : i < j := hij
    rw [List.take_of_length_le (Nat.le_of_eq HN.out)] at hRt
    have hil : (Dg.openL l).length = i := by
     rw [← hRt, List.length_take, hRl, HN.out]
     omega
    have hX : (clL.flat (Dg.openL l)).length = i * 20 := by rw [clL.flat_len, hil]; rfl
    have hM : (clL.flat (R.drop i)).length = (j - i) * 20 := by rw [clL.flat_len, List.length_drop, hRl, HN.out]; rfl
    have hg1 : wr.heap[g]? = some (.cells (clL.flat (Dg.openL l) ++ (clL.flat (R.drop i) ++ sp)).toArray 55 (0, 0)) := by
     rw [hRg, (clL.flat_split R i (by rw [hRl, HN.out]; omega)).1, hRt, List.append_assoc]
    obtain ⟨zs, hzs, hclr⟩ := run_clear_any (P := Tryz.prog) wr 30 55 0 _ 20 underlying30 zeroClv rfl (by simp; decide) (by decide) g (j - i) (c - i) (clL.flat (Dg.openL l)) (clL.flat (R.drop i)) sp _ hg1 hM
    rw [hX] at hclr
    have hg3 := setRow_heap wr g _ (clL.flat (Dg.openL l) ++ (zs ++ sp)).toArray _ _ hg1
    have HB3 := hide (below_setRow HD.out.below hBg (clL.flat (Dg.openL l) ++ (zs ++ sp)).toArray)
    have HG3 := hide hg3; have HIL := hide hil; have HZS := hide hzs
    have i0' : (0 : Int) ≤ (i : Int) := by omega
    have i1' : (i : Int) ≤ (j : Int) := by omega
    have hKc : i < c := by omega
    clear hRl hRt hRd hRg hX hM hg1 hg3 hil hzs HD
    generalize wr.setRow g (clL.flat (Dg.openL l) ++ (zs ++ sp)).toArray = w3 at *
    go_wp2
    go_ret
    refine ⟨_, rfl, ?_, HB3.out⟩
    have hil := HIL.out
    rw [← hil]
    refine Own1.mk hBg HG3.out HCM.out (by rw [hil]; omega) ?_
    rw [List.length_append, HZS.out, HSP.out, hil]
    show (j - i) * 20 + (c - j) * 20 = (c - i) * 20
    omega
def openR (l : List Dg.It) (cs : List Dg.Cl) : List Dg.Cl × Int := if Dg.validC l = false then ([], 1) else if 64 < (Dg.openL cs).length then ([], 2) else (Dg.openL cs, 0)
theorem openR_of (l : List Dg.It) (A : Option Addr) (n c : Nat) (hl : l.length = n) (hn : n ≤ 1048576) (hw : ∀ x ∈ l, ItW x) (cs : List Dg.Cl) (AC : Option Addr) (m cm : Nat) (hm : cs.length = m) (hm2 : m ≤ 1000000) (w : World) (hI : Its w w.heap.size A l) (hC : Row1 clL w w.heap.size AC cs) (Q : List Dg.Cl × Int) (hQ : openR l cs = Q) :
  Calls Tryz.prog 33 #[.agg #[.slice A n c], .slice AC m cm] w fun e w' => ∃ v', e = .returned (.tuple #[v', .int .i64 Q.2]) ∧ Own1 clL 55 w' w.heap.size v' Q.1 ∧ Below w.heap.size w w' := by
 have r1 := heap_alloc_new w (.cells #[.slice A n c] 24)
 have hb1 := nwB w (.cells #[.slice A n c] 24)
 have hz : (w.alloc (.cells #[.slice A n c] 24)).heap.size = w.heap.size + 1 := by simp
 have HR1 := hide r1; have HB1 := hide hb1; have HZ := hide hz
 have HI1 := hide (hI.keep hb1); have HC1 := hide (hC.below hb1)
 have HL := hide hl; have HW := hide hw; have HM := hide hm; have HQ := hide hQ
 clear r1 hb1 hz hI hC hl hw hm hQ
 go_enter func33, ntmps33
 go_wp2_with fail
 generalize w.alloc (.cells #[.slice A n c] 24) = w1 at *
 refine (cloneC_any AC m cm cs w1 HM.out (by omega) w.heap.size HC1.out (by have := HZ.out; omega)).mono ?_
 rintro e w2 ⟨v1, rfl, hO1, hb2⟩
 have HB2 := hide (bnext HB1.out hb2); have HR2 := hide (iNext HR1.out hb2); have HI2 := hide (HI1.out.below hb2)
 have HO1 := hide (hO1.low (show w.heap.size ≤ w1.heap.size by have := HZ.out; omega))
 have hs2 := hb2.size
 have HDL := hide (delg_of v1 cs w1.heap.size w2 hO1 (by rw [HM.out]; exact hm2) hs2)
 clear hO1 hb2
 go_wp2_with fail
 refine HDL.out.mono ?_
 rintro e w3 ⟨v3, rfl, hO3, hb3⟩
 have HB3 := hide (HB2.out.trans (hb3.mono (by have := HZ.out; omega)))
 have hw1 : w1.heap.size ≤ w3.heap.size := Nat.le_trans hs2 hb3.size
 have HR3 := hide (show w3.heap[w.heap.size]? = some (.cells #[.slice A n c] 24 (0, 0)) from (hb3.block _ (by have := HZ.out; omega)).trans HR2.out)
 have HI3 := hide ((HI2.out.below hb3).more hw1)
 have HO3 := hide (hO3.low (show w.heap.size ≤ w1.heap.size by have := HZ.out; omega))
 clear hO3 hb3 HDL
 obtain ⟨A3, c3, hv3, _, _⟩ := HO3.out.row
 obtain ⟨k3, hk3⟩ : ∃ k3, (Dg.openL cs).length = k3 := ⟨_, rfl⟩
 rw [hk3] at hv3
 subst hv3
 have HK3 := hide hk3
 clear hk3
 have c0 := iCells0 HR3.out
 go_wp2_with fail
 obtain ⟨vb, hvb⟩ : ∃ vb, Dg.validC l = vb := ⟨_, rfl⟩
 have HVB := hide hvb
 refine (Code.valid_of l A n c HL.out HW.out hn w3 HI3.out vb hvb).mono ?_
 rintro e w4 ⟨rfl, hb4⟩
 have HB4 := hide (bnext HB3.out hb4)
 have HO4 := hide (HO3.out.below hb4)
 clear hvb hb4 c0 HO3 HB3 HI3 HR3 HR2 HI2 HB2 HO1
 cases vb with
 | false =>
  have hq : Q = ([], 1) := by rw [← HQ.out]; exact if_pos HVB.out
  subst hq
  go_wp2
  go_ret2
  exact ⟨_, rfl, Own1.nil _ _ _ _, HB4.out⟩
 | true =>
  by_cases h64 : (64 : Int) < (k3 : Int)
  ·have hq : Q = ([], 2) := by
    rw [← HQ.out]
    unfold openR
    rw [if_neg (by rw [HVB.out]; decide), HK3.out]
    exact if_pos (by omega)
   subst hq
   go_wp2
   go_ret2
   exact ⟨_, rfl, Own1.nil _ _ _ _, HB4.out⟩
  ·have hq : Q = (Dg.openL cs, 0) := by
    rw [← HQ.out]
    unfold openR
    rw [if_neg (by rw [HVB.out]; decide), HK3.out]
    exact if_neg (by omega)
   subst hq
   go_wp2
   go_ret2
   exact ⟨_, rfl, HO4.out, HB4.out⟩
theorem own_rangeL {α : Type} {L : Lay α} {e : TypeId} {X : World} {B : Nat} {A : Option Addr} {n c : Nat} {l : List α} (h : Own1 L e X B (.slice A n c) l) {k : Nat} (hk : k < l.length) : ∃ g, A = some ⟨g, 0, none⟩ ∧ g < X.heap.size ∧ X.rangeAt g (k * L.k) (L.C l[k]) := by
 obtain ⟨g, cap', sp, hvg, _, hgl, hgr, _, _, _⟩ := h.form (by omega)
 injection hvg with hvg _ _
 refine ⟨g, hvg, hgl, range_of hgr (k * L.k) (L.C l[k]) ?_⟩
 have h1 : (L.C l[k]).length = L.k := L.len _
 have h2 := L.flat_split l k (Nat.le_of_lt hk)
 have h3 : l.drop k = l[k] :: l.drop (k + 1) := List.drop_eq_getElem_cons hk
 rw [List.toList_toArray, h2.1, List.append_assoc, ← h2.2, List.drop_left, h3, L.flat_cons, List.append_assoc]
 exact (List.take_append_of_le_length (Nat.le_refl _)).trans (List.take_of_length_le (Nat.le_refl _))
def stL : Lay Dg.Sp := ⟨fun s => [.int .i64 s.seat, .int .i64 s.count], 2, fun _ => rfl, fun x u hu => by
 rcases List.mem_cons.1 hu with rfl | hu
 ·rfl
 ·rw [List.mem_singleton.1 hu]
  rfl⟩
theorem st_nrun (w : World) (x : Dg.Sp) : (binOp .neq 49 (.agg #[.int .i64 x.seat, .int .i64 x.count]) (.agg #[.int .i64 x.seat, .int .i64 x.count])).run Tryz.prog w = .ok (.bool false) w := by
 have h : sameS x x = true := (sameS_iff x x).2 rfl
 have h1 := stamp_nrun w x.seat x.count x.seat x.count
 rw [h1, show sameS ⟨x.seat, x.count⟩ ⟨x.seat, x.count⟩ = true from h]
 rfl
theorem pt_nrun (w : World) (x : Dg.Pt) : (binOp .neq 53 (.agg (Rq0 x)) (.agg (Rq0 x))).run Tryz.prog w = .ok (.bool false) w := by
 rw [run_neq_struct, patch_eqIn 9996, sameP_dec, decide_eq_true rfl]
 rfl
theorem yn_same38s {ops : Array Oper} {S : World → Prop} {op : Oper} {a : Act} {x : Dg.Sp} (y z : Operand) (ho : op.op = .binOp .neq 49 y z 49) (hw : Region.wanted op (yielded ops a.tmps) = true) (hx : a.eval y = .agg #[.int .i64 x.seat, .int .i64 x.count]) (hz : a.eval z = .agg #[.int .i64 x.seat, .int .i64 x.count]) : YieldsIf Tryz.prog ops S op (.bool false) a :=
 .inl ⟨hw, fun w _ => by
  unfold execOp
  simp only [ho, hx, hz, Sem.run_bind, Sem.run_pure, Result.andThen_ok, st_nrun, run_eqGuard_agg (w := w) .neq 49 y z _ _ (show Tryz.prog.eqGuardType Tryz.prog.depth 49 = false by kernel_rfl)]⟩
theorem same38s (v v' : Value) (L : List Dg.Sp) (B B' : Nat) (X : World) (h : Own1 stL 49 X B v L) (h' : Own1 stL 49 X B' v' L) (hl : L.length ≤ 1000000) :
  Calls Tryz.prog 13 #[v, v'] X fun e Y => e = .returned (.bool true) ∧ Below X.heap.size X Y := by
 have hmx := hmxQ
 obtain ⟨A, c, rfl, _, _⟩ := h.row
 obtain ⟨A', c', rfl, _, _⟩ := h'.row
 obtain ⟨n, hn⟩ : ∃ n, L.length = n := ⟨_, rfl⟩
 rw [hn] at h h' hl ⊢
 have H1 := hide h; have H2 := hide h'; have HN := hide hn
 have hbn : ((n : Int) != (n : Int)) = false := by simp
 clear h h' hn
 go_enter func13, ntmps13
 go_wp2
 go_loopw [5] (fun iv wr => ∃ k : Nat, k ≤ n ∧ iv = .int .i64 k ∧ Hid (Below X.heap.size X wr)) (fun iv _ => n - (intOf iv).toNat)
 case atStart => exact ⟨0, Nat.zero_le _, rfl, hide (Below.refl _ _)⟩
 case round =>
  obtain ⟨k, hk, rfl, HK⟩ := hrel
  by_cases hlt : k < n
  ·have hkl : k < L.length := by rw [HN.out]; exact hlt
   obtain ⟨g, rfl, hg1, hr1⟩ := own_rangeL (H1.out.below HK.out) hkl
   obtain ⟨g', rfl, hg2, hr2⟩ := own_rangeL (H2.out.below HK.out) hkl
   obtain ⟨x, hx⟩ : ∃ x, L[k] = x := ⟨_, rfl⟩
   rw [hx] at hr1 hr2
   have HR1 : Hid (wr.rangeAt g (k * 2) [.int .i64 x.seat, .int .i64 x.count]) := hide hr1
   have HR2 : Hid (wr.rangeAt g' (k * 2) [.int .i64 x.seat, .int .i64 x.count]) := hide hr2
   clear hr1 hr2 hx
   have i0 : (0 : Int) ≤ (k : Int) := by omega
   have i1 : (k : Int) < (n : Int) := by omega
   go_upto_region 6 with fail
   refine wp_region_noPanic ?_
   refine wp_region_L (Below wr.drew.heap.size wr.drew) 9 hmx ?_
   have hdr := (Below.refl wr.heap.size wr).drew
   have hq1 := range_below HR1.out hg1 hdr
   have hq2 := range_below HR2.out hg2 hdr
   have H1K := hide (fun Z (hZ : Below wr.drew.heap.size wr.drew Z) => range_below hq1 (Nat.lt_of_lt_of_le hg1 hdr.size) hZ)
   have H2K := hide (fun Z (hZ : Below wr.drew.heap.size wr.drew Z) => range_below hq2 (Nat.lt_of_lt_of_le hg2 hdr.size) hZ)
   have hH0 := Below.refl wr.drew.heap.size wr.drew
   have HBU := hide HK.out.drew
   clear hdr hq1 hq2 HR1 HR2 HK
   generalize wr.drew = u0 at *
   refine tU 0 11 hH0 rfl ?_
   refine tU 1 11 hH0 rfl ?_
   refine tU 2 11 hH0 rfl ?_
   refine tkV 3 11 (.agg #[.int .i64 x.seat, .int .i64 x.count]) rfl (by exact yieldsIf_load_mid (by rfl) 49 (.tmp 19) rfl g (k * 2) rfl [.int .i64 x.seat, .int .i64 x.count] _ (fun X hX => H1K.out X hX) underlying49 rfl (by kernel_rfl)) hH0 ?_
   simp only [Act.put, pu]
   refine tU 4 11 hH0 rfl ?_
   refine tU 5 11 hH0 rfl ?_
   refine tU 6 11 hH0 rfl ?_
   refine tkV 7 11 (.agg #[.int .i64 x.seat, .int .i64 x.count]) rfl (by exact yieldsIf_load_mid (by rfl) 49 (.tmp 23) rfl g' (k * 2) rfl [.int .i64 x.seat, .int .i64 x.count] _ (fun X hX => H2K.out X hX) underlying49 rfl (by kernel_rfl)) hH0 ?_
   simp only [Act.put, pu]
   refine tkV 8 11 (.bool false) rfl (by exact yn_same38s (.tmp 20) (.tmp 24) rfl (by rfl) (by rfl) (by rfl)) hH0 ?_
   simp only [Act.put, pu]
   refine dnY ?_
   go_wp2_with fail
   go_roundw
   case rel => exact ⟨k + 1, by omega, by go_num, HBU⟩
   case measure => simp [intOf]; omega
  ·obtain rfl : k = n := by omega
   go_wp2
   go_ret
   exact ⟨rfl, HK.out⟩
theorem yn_same21p {ops : Array Oper} {S : World → Prop} {op : Oper} {a : Act} {x : Dg.Pt} (y z : Operand) (ho : op.op = .binOp .neq 53 y z 53) (hw : Region.wanted op (yielded ops a.tmps) = true) (hx : a.eval y = .agg (Rq0 x)) (hz : a.eval z = .agg (Rq0 x)) : YieldsIf Tryz.prog ops S op (.bool false) a :=
 .inl ⟨hw, fun w _ => by
  unfold execOp
  simp only [ho, hx, hz, Sem.run_bind, Sem.run_pure, Result.andThen_ok, pt_nrun, run_eqGuard_agg (w := w) .neq 53 y z _ _ (show Tryz.prog.eqGuardType Tryz.prog.depth 53 = false by kernel_rfl)]⟩
theorem same21p (v v' : Value) (L : List Dg.Pt) (B B' : Nat) (X : World) (h : Own1 ptL 53 X B v L) (h' : Own1 ptL 53 X B' v' L) (hl : L.length ≤ 1000000) :
  Calls Tryz.prog 14 #[v, v'] X fun e Y => e = .returned (.bool true) ∧ Below X.heap.size X Y := by
 have hmx := hmxQ
 obtain ⟨A, c, rfl, _, _⟩ := h.row
 obtain ⟨A', c', rfl, _, _⟩ := h'.row
 obtain ⟨n, hn⟩ : ∃ n, L.length = n := ⟨_, rfl⟩
 rw [hn] at h h' hl ⊢
 have H1 := hide h; have H2 := hide h'; have HN := hide hn
 have hbn : ((n : Int) != (n : Int)) = false := by simp
 clear h h' hn
 go_enter func14, ntmps14
 go_wp2
 go_loopw [5] (fun iv wr => ∃ k : Nat, k ≤ n ∧ iv = .int .i64 k ∧ Hid (Below X.heap.size X wr)) (fun iv _ => n - (intOf iv).toNat)
 case atStart => exact ⟨0, Nat.zero_le _, rfl, hide (Below.refl _ _)⟩
 case round =>
  obtain ⟨k, hk, rfl, HK⟩ := hrel
  by_cases hlt : k < n
  ·have hkl : k < L.length := by rw [HN.out]; exact hlt
   obtain ⟨g, rfl, hg1, hr1⟩ := own_rangeL (H1.out.below HK.out) hkl
   obtain ⟨g', rfl, hg2, hr2⟩ := own_rangeL (H2.out.below HK.out) hkl
   obtain ⟨x, hx⟩ : ∃ x, L[k] = x := ⟨_, rfl⟩
   rw [hx] at hr1 hr2
   have HR1 : Hid (wr.rangeAt g (k * 15) (Rq0 x)) := hide hr1
   have HR2 : Hid (wr.rangeAt g' (k * 15) (Rq0 x)) := hide hr2
   clear hr1 hr2 hx
   have i0 : (0 : Int) ≤ (k : Int) := by omega
   have i1 : (k : Int) < (n : Int) := by omega
   go_upto_region 6 with fail
   refine wp_region_noPanic ?_
   refine wp_region_L (Below wr.drew.heap.size wr.drew) 9 hmx ?_
   have hdr := (Below.refl wr.heap.size wr).drew
   have hq1 := range_below HR1.out hg1 hdr
   have hq2 := range_below HR2.out hg2 hdr
   have H1K := hide (fun Z (hZ : Below wr.drew.heap.size wr.drew Z) => range_below hq1 (Nat.lt_of_lt_of_le hg1 hdr.size) hZ)
   have H2K := hide (fun Z (hZ : Below wr.drew.heap.size wr.drew Z) => range_below hq2 (Nat.lt_of_lt_of_le hg2 hdr.size) hZ)
   have hH0 := Below.refl wr.drew.heap.size wr.drew
   have HBU := hide HK.out.drew
   clear hdr hq1 hq2 HR1 HR2 HK
   generalize wr.drew = u0 at *
   refine tU 0 11 hH0 rfl ?_
   refine tU 1 11 hH0 rfl ?_
   refine tU 2 11 hH0 rfl ?_
   refine tkV 3 11 (.agg (Rq0 x)) rfl (by exact yieldsIf_load_mid (by rfl) 53 (.tmp 19) rfl g (k * 15) rfl (Rq0 x) _ (fun X hX => H1K.out X hX) underlying53 rfl (by kernel_rfl)) hH0 ?_
   simp only [Act.put, pu]
   refine tU 4 11 hH0 rfl ?_
   refine tU 5 11 hH0 rfl ?_
   refine tU 6 11 hH0 rfl ?_
   refine tkV 7 11 (.agg (Rq0 x)) rfl (by exact yieldsIf_load_mid (by rfl) 53 (.tmp 23) rfl g' (k * 15) rfl (Rq0 x) _ (fun X hX => H2K.out X hX) underlying53 rfl (by kernel_rfl)) hH0 ?_
   simp only [Act.put, pu]
   refine tkV 8 11 (.bool false) rfl (by exact yn_same21p (.tmp 20) (.tmp 24) rfl (by rfl) (by rfl) (by rfl)) hH0 ?_
   simp only [Act.put, pu]
   refine dnY ?_
   go_wp2_with fail
   go_roundw
   case rel => exact ⟨k + 1, by omega, by go_num, HBU⟩
   case measure => simp [intOf]; omega
  ·obtain rfl : k = n := by omega
   go_wp2
   go_ret
   exact ⟨rfl, HK.out⟩
theorem yn_same36 {ops : Array Oper} {S : World → Prop} {op : Oper} {a : Act} {x : Dg.Cl} (y z : Operand) (ho : op.op = .binOp .neq 55 y z 55) (hw : Region.wanted op (yielded ops a.tmps) = true) (hx : a.eval y = .agg (clC x)) (hz : a.eval z = .agg (clC x)) : YieldsIf Tryz.prog ops S op (.bool false) a :=
 .inl ⟨hw, fun w _ => by
  unfold execOp
  simp only [ho, hx, hz, Sem.run_bind, Sem.run_pure, Result.andThen_ok, clause_nrun, run_eqGuard_agg (w := w) .neq 55 y z _ _ (show Tryz.prog.eqGuardType Tryz.prog.depth 55 = false by kernel_rfl)]⟩
theorem same36 (v v' : Value) (L : List Dg.Cl) (B B' : Nat) (X : World) (h : Own1 clL 55 X B v L) (h' : Own1 clL 55 X B' v' L) (hl : L.length ≤ 1000000) :
  Calls Tryz.prog 8 #[v, v'] X fun e Y => e = .returned (.bool true) ∧ Below X.heap.size X Y := by
 have hmx := hmxQ
 obtain ⟨A, c, rfl, _, _⟩ := h.row
 obtain ⟨A', c', rfl, _, _⟩ := h'.row
 obtain ⟨n, hn⟩ : ∃ n, L.length = n := ⟨_, rfl⟩
 rw [hn] at h h' hl ⊢
 have H1 := hide h; have H2 := hide h'; have HN := hide hn
 have hbn : ((n : Int) != (n : Int)) = false := by simp
 clear h h' hn
 go_enter func8, ntmps8
 go_wp2
 go_loopw [5] (fun iv wr => ∃ k : Nat, k ≤ n ∧ iv = .int .i64 k ∧ Hid (Below X.heap.size X wr)) (fun iv _ => n - (intOf iv).toNat)
 case atStart => exact ⟨0, Nat.zero_le _, rfl, hide (Below.refl _ _)⟩
 case round =>
  obtain ⟨k, hk, rfl, HK⟩ := hrel
  by_cases hlt : k < n
  ·have hkl : k < L.length := by rw [HN.out]; exact hlt
   obtain ⟨g, rfl, hg1, hr1⟩ := own_rangeL (H1.out.below HK.out) hkl
   obtain ⟨g', rfl, hg2, hr2⟩ := own_rangeL (H2.out.below HK.out) hkl
   obtain ⟨x, hx⟩ : ∃ x, L[k] = x := ⟨_, rfl⟩
   rw [hx] at hr1 hr2
   have HR1 : Hid (wr.rangeAt g (k * 20) (clC x).toList) := hide hr1
   have HR2 : Hid (wr.rangeAt g' (k * 20) (clC x).toList) := hide hr2
   clear hr1 hr2 hx
   have i0 : (0 : Int) ≤ (k : Int) := by omega
   have i1 : (k : Int) < (n : Int) := by omega
   go_upto_region 6 with fail
   refine wp_region_noPanic ?_
   refine wp_region_L (Below wr.drew.heap.size wr.drew) 9 hmx ?_
   have hdr := (Below.refl wr.heap.size wr).drew
   have hq1 := range_below HR1.out hg1 hdr
   have hq2 := range_below HR2.out hg2 hdr
   have H1K := hide (fun Z (hZ : Below wr.drew.heap.size wr.drew Z) => range_below hq1 (Nat.lt_of_lt_of_le hg1 hdr.size) hZ)
   have H2K := hide (fun Z (hZ : Below wr.drew.heap.size wr.drew Z) => range_below hq2 (Nat.lt_of_lt_of_le hg2 hdr.size) hZ)
   have hH0 := Below.refl wr.drew.heap.size wr.drew
   have HBU := hide HK.out.drew
   clear hdr hq1 hq2 HR1 HR2 HK
   generalize wr.drew = u0 at *
   refine tU 0 11 hH0 rfl ?_
   refine tU 1 11 hH0 rfl ?_
   refine tU 2 11 hH0 rfl ?_
   refine tkV 3 11 (.agg (clC x)) rfl (by exact yieldsIf_load_mid (by rfl) 55 (.tmp 19) rfl g (k * 20) rfl (clC x).toList _ (fun X hX => H1K.out X hX) underlying55 rfl (by kernel_rfl)) hH0 ?_
   simp only [Act.put, pu]
   refine tU 4 11 hH0 rfl ?_
   refine tU 5 11 hH0 rfl ?_
   refine tU 6 11 hH0 rfl ?_
   refine tkV 7 11 (.agg (clC x)) rfl (by exact yieldsIf_load_mid (by rfl) 55 (.tmp 23) rfl g' (k * 20) rfl (clC x).toList _ (fun X hX => H2K.out X hX) underlying55 rfl (by kernel_rfl)) hH0 ?_
   simp only [Act.put, pu]
   refine tkV 8 11 (.bool false) rfl (by exact yn_same36 (.tmp 20) (.tmp 24) rfl (by rfl) (by rfl) (by rfl)) hH0 ?_
   simp only [Act.put, pu]
   refine dnY ?_
   go_wp2_with fail
   go_roundw
   case rel => exact ⟨k + 1, by omega, by go_num, HBU⟩
   case measure => simp [intOf]; omega
  ·obtain rfl : k = n := by omega
   go_wp2
   go_ret
   exact ⟨rfl, HK.out⟩
def prL : Lay (Dg.Sp × Dg.Sp) := ⟨fun s => [.int .i64 s.1.seat, .int .i64 s.1.count, .int .i64 s.2.seat, .int .i64 s.2.count], 4, fun _ => rfl, fun x u hu => by
 rcases List.mem_cons.1 hu with rfl | hu
 ·rfl
 ·rcases List.mem_cons.1 hu with rfl | hu
  ·rfl
  ·rcases List.mem_cons.1 hu with rfl | hu
   ·rfl
   ·rw [List.mem_singleton.1 hu]
    rfl⟩
theorem pair_eqIn (d : Nat) (w : World) (x : Dg.Sp × Dg.Sp) : (Op.equalIn (d + 3) 91 (.agg #[.int .i64 x.1.seat, .int .i64 x.1.count, .int .i64 x.2.seat, .int .i64 x.2.count]) (.agg #[.int .i64 x.1.seat, .int .i64 x.1.count, .int .i64 x.2.seat, .int .i64 x.2.count])).run Tryz.prog w = .ok true w := by
 have hA := fun (w : World) => stamp_eqIn d w x.1.seat x.1.count x.1.seat x.1.count
 have hB := fun (w : World) => stamp_eqIn d w x.2.seat x.2.count x.2.seat x.2.count
 have h1 : sameS ⟨x.1.seat, x.1.count⟩ ⟨x.1.seat, x.1.count⟩ = true := (sameS_iff x.1 x.1).2 rfl
 have h2 : sameS ⟨x.2.seat, x.2.count⟩ ⟨x.2.seat, x.2.count⟩ = true := (sameS_iff x.2 x.2).2 rfl
 rw [h1] at hA
 rw [h2] at hB
 have u1 := underlying91
 have z1 := Tryz.sizeOf49
 have a1 := Tryz.isAgg49
 rw [Op.equalIn]
 simp only [Sem.run_bind, run_underlying u1, Result.andThen_ok]
 simp [List.range', part, z1, a1, hA, hB]
 try go_simp
theorem pr_nrun (w : World) (x : Dg.Sp × Dg.Sp) : (binOp .neq 91 (.agg #[.int .i64 x.1.seat, .int .i64 x.1.count, .int .i64 x.2.seat, .int .i64 x.2.count]) (.agg #[.int .i64 x.1.seat, .int .i64 x.1.count, .int .i64 x.2.seat, .int .i64 x.2.count])).run Tryz.prog w = .ok (.bool false) w := by
 rw [run_neq_struct, pair_eqIn 9997]
 rfl
theorem yn_same38p {ops : Array Oper} {S : World → Prop} {op : Oper} {a : Act} {x : (Dg.Sp × Dg.Sp)} (y z : Operand) (ho : op.op = .binOp .neq 91 y z 91) (hw : Region.wanted op (yielded ops a.tmps) = true) (hx : a.eval y = .agg #[.int .i64 x.1.seat, .int .i64 x.1.count, .int .i64 x.2.seat, .int .i64 x.2.count]) (hz : a.eval z = .agg #[.int .i64 x.1.seat, .int .i64 x.1.count, .int .i64 x.2.seat, .int .i64 x.2.count]) : YieldsIf Tryz.prog ops S op (.bool false) a :=
 .inl ⟨hw, fun w _ => by
  unfold execOp
  simp only [ho, hx, hz, Sem.run_bind, Sem.run_pure, Result.andThen_ok, pr_nrun, run_eqGuard_agg (w := w) .neq 91 y z _ _ (show Tryz.prog.eqGuardType Tryz.prog.depth 91 = false by kernel_rfl)]⟩
theorem same38p (v v' : Value) (L : List (Dg.Sp × Dg.Sp)) (B B' : Nat) (X : World) (h : Own1 prL 91 X B v L) (h' : Own1 prL 91 X B' v' L) (hl : L.length ≤ 1000000) :
  Calls Tryz.prog 12 #[v, v'] X fun e Y => e = .returned (.bool true) ∧ Below X.heap.size X Y := by
 have hmx := hmxQ
 obtain ⟨A, c, rfl, _, _⟩ := h.row
 obtain ⟨A', c', rfl, _, _⟩ := h'.row
 obtain ⟨n, hn⟩ : ∃ n, L.length = n := ⟨_, rfl⟩
 rw [hn] at h h' hl ⊢
 have H1 := hide h; have H2 := hide h'; have HN := hide hn
 have hbn : ((n : Int) != (n : Int)) = false := by simp
 clear h h' hn
 go_enter func12, ntmps12
 go_wp2
 go_loopw [5] (fun iv wr => ∃ k : Nat, k ≤ n ∧ iv = .int .i64 k ∧ Hid (Below X.heap.size X wr)) (fun iv _ => n - (intOf iv).toNat)
 case atStart => exact ⟨0, Nat.zero_le _, rfl, hide (Below.refl _ _)⟩
 case round =>
  obtain ⟨k, hk, rfl, HK⟩ := hrel
  by_cases hlt : k < n
  ·have hkl : k < L.length := by rw [HN.out]; exact hlt
   obtain ⟨g, rfl, hg1, hr1⟩ := own_rangeL (H1.out.below HK.out) hkl
   obtain ⟨g', rfl, hg2, hr2⟩ := own_rangeL (H2.out.below HK.out) hkl
   obtain ⟨x, hx⟩ : ∃ x, L[k] = x := ⟨_, rfl⟩
   rw [hx] at hr1 hr2
   have HR1 : Hid (wr.rangeAt g (k * 4) [.int .i64 x.1.seat, .int .i64 x.1.count, .int .i64 x.2.seat, .int .i64 x.2.count]) := hide hr1
   have HR2 : Hid (wr.rangeAt g' (k * 4) [.int .i64 x.1.seat, .int .i64 x.1.count, .int .i64 x.2.seat, .int .i64 x.2.count]) := hide hr2
   clear hr1 hr2 hx
   have i0 : (0 : Int) ≤ (k : Int) := by omega
   have i1 : (k : Int) < (n : Int) := by omega
   go_upto_region 6 with fail
   refine wp_region_noPanic ?_
   refine wp_region_L (Below wr.drew.heap.size wr.drew) 9 hmx ?_
   have hdr := (Below.refl wr.heap.size wr).drew
   have hq1 := range_below HR1.out hg1 hdr
   have hq2 := range_below HR2.out hg2 hdr
   have H1K := hide (fun Z (hZ : Below wr.drew.heap.size wr.drew Z) => range_below hq1 (Nat.lt_of_lt_of_le hg1 hdr.size) hZ)
   have H2K := hide (fun Z (hZ : Below wr.drew.heap.size wr.drew Z) => range_below hq2 (Nat.lt_of_lt_of_le hg2 hdr.size) hZ)
   have hH0 := Below.refl wr.drew.heap.size wr.drew
   have HBU := hide HK.out.drew
   clear hdr hq1 hq2 HR1 HR2 HK
   generalize wr.drew = u0 at *
   refine tU 0 11 hH0 rfl ?_
   refine tU 1 11 hH0 rfl ?_
   refine tU 2 11 hH0 rfl ?_
   refine tkV 3 11 (.agg #[.int .i64 x.1.seat, .int .i64 x.1.count, .int .i64 x.2.seat, .int .i64 x.2.count]) rfl (by exact yieldsIf_load_mid (by rfl) 91 (.tmp 19) rfl g (k * 4) rfl [.int .i64 x.1.seat, .int .i64 x.1.count, .int .i64 x.2.seat, .int .i64 x.2.count] _ (fun X hX => H1K.out X hX) underlying91 rfl (by kernel_rfl)) hH0 ?_
   simp only [Act.put, pu]
   refine tU 4 11 hH0 rfl ?_
   refine tU 5 11 hH0 rfl ?_
   refine tU 6 11 hH0 rfl ?_
   refine tkV 7 11 (.agg #[.int .i64 x.1.seat, .int .i64 x.1.count, .int .i64 x.2.seat, .int .i64 x.2.count]) rfl (by exact yieldsIf_load_mid (by rfl) 91 (.tmp 23) rfl g' (k * 4) rfl [.int .i64 x.1.seat, .int .i64 x.1.count, .int .i64 x.2.seat, .int .i64 x.2.count] _ (fun X hX => H2K.out X hX) underlying91 rfl (by kernel_rfl)) hH0 ?_
   simp only [Act.put, pu]
   refine tkV 8 11 (.bool false) rfl (by exact yn_same38p (.tmp 20) (.tmp 24) rfl (by rfl) (by rfl) (by rfl)) hH0 ?_
   simp only [Act.put, pu]
   refine dnY ?_
   go_wp2_with fail
   go_roundw
   case rel => exact ⟨k + 1, by omega, by go_num, HBU⟩
   case measure => simp [intOf]; omega
  ·obtain rfl : k = n := by omega
   go_wp2
   go_ret
   exact ⟨rfl, HK.out⟩
def smallP (p : Dg.Pt) : Bool := decide (p.id.size ≤ 500 ∧ p.parent.size ≤ 500 ∧ p.after.size ≤ 500 ∧ p.number.size ≤ 500 ∧ p.src.size ≤ 500 ∧ p.dst.size ≤ 500) && fewC [p.item] 1
def few21 (ps : List Dg.Pt) (m : Nat) : Bool := decide (ps.length ≤ m) && ps.all smallP
theorem few21_no {ps : List Dg.Pt} {m k : Nat} (hk : k < ps.length) (h : smallP ps[k] = false) : few21 ps m = false := by
 unfold few21
 rw [Bool.and_eq_false_iff]
 right
 rw [List.all_eq_false]
 exact ⟨ps[k], List.getElem_mem hk, by rw [h]; decide⟩
attribute [-go_sem] Instr.storeAt in
theorem few21_of (ps : List Dg.Pt) (AP : Option Addr) (n c m : Nat) (hn : ps.length = n) (hnb : n ≤ 1000000) (hm : m ≤ 1000) (w : World) (hP : Row1 ptL w w.heap.size AP ps) (R : Bool) (hR : few21 ps m = R) :
  Calls Tryz.prog 18 #[.agg #[.string ⟨#[]⟩, .string ⟨#[]⟩, .int .i64 0, .slice AP n c, .slice none 0 0, .slice none 0 0], .int .i64 (m : Int)] w fun e w' => e = .returned (.bool R) ∧ Below w.heap.size w w' := by
 have hx1 := nwB w (.cells #[.string ⟨#[]⟩, .string ⟨#[]⟩, .int .i64 0, .slice AP n c, .slice none 0 0, .slice none 0 0] 66)
 have hrow := heap_alloc_new w (.cells #[.string ⟨#[]⟩, .string ⟨#[]⟩, .int .i64 0, .slice AP n c, .slice none 0 0, .slice none 0 0] 66)
 have HN := hide hn; have HR := hide hR; have HP := hide hP
 clear hn hR hP
 go_enter func18, ntmps18
 go_upto_region 1 with fail
 have HB1 := hide hx1; have HW1 := hide hrow
 clear hx1 hrow
 generalize w.alloc (.cells #[.string ⟨#[]⟩, .string ⟨#[]⟩, .int .i64 0, .slice AP n c, .slice none 0 0, .slice none 0 0] 66) = w1 at *
 have d0 := cell_of_row _ _ 0 _ _ _ HW1.out
 have d1 := cell_of_row _ _ 1 _ _ _ HW1.out
 have d3 := cell_of_row _ _ 3 _ _ _ HW1.out
 have d4 := cell_of_row _ _ 4 _ _ _ HW1.out
 have d5 := cell_of_row _ _ 5 _ _ _ HW1.out
 by_cases hnm : (m : Int) < (n : Int)
 ·have E9 := hide (show false = R by rw [← HR.out]; unfold few21; rw [decide_eq_false (by have := HN.out; omega), Bool.false_and])
  go_wp2
  go_ret
  exact ⟨ret_bool E9.out, HB1.out⟩
 go_wp2_with fail
 clear d0 d1 d3 d4 d5
 go_loopw [5] (fun iv wr => ∃ k : Nat, k ≤ n ∧ iv = .int .i64 (k : Int) ∧ Hid (Below w.heap.size w wr ∧ wr.heap[w.heap.size]? = some (.cells #[.string ⟨#[]⟩, .string ⟨#[]⟩, .int .i64 0, .slice AP n c, .slice none 0 0, .slice none 0 0] 66 (0, 0)) ∧ ∀ x ∈ ps.take k, smallP x = true)) (fun iv _ => n - (intOf iv).toNat)
 case atStart => exact ⟨0, by omega, rfl, hide ⟨HB1.out, HW1.out, fun x hx => by simp at hx⟩⟩
 case round =>
  obtain ⟨k, hk, rfl, HK⟩ := hrel
  clear HB1 HW1
  have d3 := cell_of_row _ _ 3 _ _ _ HK.out.2.1
  by_cases hlt : k < n
  ·have hkl : k < ps.length := by rw [HN.out]; exact hlt
   have hPr := HP.out.below HK.out.1
   obtain ⟨bp, op, rfl⟩ := hPr.someP (by omega)
   obtain ⟨p, hp⟩ : ∃ p, ps[k] = p := ⟨_, rfl⟩
   have hRP := hide (row_range hPr hkl p hp)
   have HX := hide hp
   clear hp hPr
   have hst := store_new (ty := 53) (T := 53) wr Rq2 (Rq0 p) (by kernel_rfl) rfl (all_oneCell_toArray (ptL.one p))
   have j0 : (0 : Int) ≤ (k : Int) := by omega
   have j1 : (k : Int) < (n : Int) := by omega
   go_upto_region 7 with (with_reducible refine wpList_load_mid rfl 53 (.tmp 48) rfl bp (op + k * 15) rfl _ _ hRP.out underlying53 rfl (by kernel_rfl) ?_)
   clear hst hRP d3
   have hbn := nwB wr (.cells (Rq0 p) 53)
   have r6 := heap_alloc_new wr (.cells (Rq0 p) 53)
   have HW5 := hide (iNext HK.out.2.1 hbn)
   have HB5 := hide (bnext HK.out.1 hbn)
   have HALL := hide HK.out.2.2
   clear hbn HK
   obtain ⟨b6, hb6⟩ : ∃ b6, b6 = wr.heap.size := ⟨_, rfl⟩
   rw [← hb6] at r6 ⊢
   clear hb6
   generalize wr.alloc (.cells (Rq0 p) 53) = w5 at *
   have hcs := jC15 r6
   have c1 := hcs.2.1; have c2 := hcs.2.2.1; have c3 := hcs.2.2.2.1; have c4 := hcs.2.2.2.2.1
   have c13 := hcs.2.2.2.2.2.2.2.2.2.2.2.2.2.1; have c14 := hcs.2.2.2.2.2.2.2.2.2.2.2.2.2.2
   clear hcs
   by_cases s0 : (500 : Int) < (p.id.size : Int)
   ·have E9 := hide (show false = R by rw [← HR.out]; exact (few21_no hkl (by rw [HX.out]; unfold smallP; rw [decide_eq_false (by omega), Bool.false_and])).symm)
    go_wp2
    go_ret
    exact ⟨ret_bool E9.out, HB5.out⟩
   by_cases s1 : (500 : Int) < (p.parent.size : Int)
   ·have E9 := hide (show false = R by rw [← HR.out]; exact (few21_no hkl (by rw [HX.out]; unfold smallP; rw [decide_eq_false (by omega), Bool.false_and])).symm)
    go_wp2
    go_ret
    exact ⟨ret_bool E9.out, HB5.out⟩
   by_cases s2 : (500 : Int) < (p.after.size : Int)
   ·have E9 := hide (show false = R by rw [← HR.out]; exact (few21_no hkl (by rw [HX.out]; unfold smallP; rw [decide_eq_false (by omega), Bool.false_and])).symm)
    go_wp2
    go_ret
    exact ⟨ret_bool E9.out, HB5.out⟩
   by_cases s3 : (500 : Int) < (p.number.size : Int)
   ·have E9 := hide (show false = R by rw [← HR.out]; exact (few21_no hkl (by rw [HX.out]; unfold smallP; rw [decide_eq_false (by omega), Bool.false_and])).symm)
    go_wp2
    go_ret
    exact ⟨ret_bool E9.out, HB5.out⟩
   by_cases s4 : (500 : Int) < (p.src.size : Int)
   ·have E9 := hide (show false = R by rw [← HR.out]; exact (few21_no hkl (by rw [HX.out]; unfold smallP; rw [decide_eq_false (by omega), Bool.false_and])).symm)
    go_wp2
    go_ret
    exact ⟨ret_bool E9.out, HB5.out⟩
   by_cases s5 : (500 : Int) < (p.dst.size : Int)
   ·have E9 := hide (show false = R by rw [← HR.out]; exact (few21_no hkl (by rw [HX.out]; unfold smallP; rw [decide_eq_false (by omega), Bool.false_and])).symm)
    go_wp2
    go_ret
    exact ⟨ret_bool E9.out, HB5.out⟩
   have hRI := hide (range_of r6 5 (Rq4 p.item) rfl)
   go_wp2_with (refine wpList_load_midW 51 (.tmp 85) rfl (by rfl) b6 5 rfl _ _ hRI.out underlying51 rfl (by kernel_rfl) ?_)
   clear c1 c2 c3 c4 c13 c14 hRI
   have hbn := nwB w5 (.cells (Rq4 p.item) 51)
   have hO : Own1 iLay 51 (w5.alloc (.cells (Rq4 p.item) 51)) w5.heap.size (.slice (some ⟨w5.heap.size, 0, none⟩) 1 1) [p.item] := Own1.mk (L := iLay) (l := [p.item]) (sp := []) (Nat.le_refl _) (heap_alloc_new w5 _) (by unfold maxLen; decide) (Nat.le_refl _) rfl
   obtain ⟨A, c9, e, hI, _⟩ := hO.row
   injection e with e e1 ec
   clear e1
   subst e ec
   have HI := hide hI.its
   have HW6 := hide (iNext HW5.out hbn)
   have HB6 := hide (bnext HB5.out hbn)
   clear hO hI hbn HW5 HB5 r6
   generalize w5.alloc (.cells (Rq4 p.item) 51) = w6 at *
   obtain ⟨q, hq⟩ : ∃ q, fewC [p.item] 1 = q := ⟨_, rfl⟩
   refine (rfew_of [p.item] (some ⟨w5.heap.size, 0, none⟩) 1 1 1 rfl (by decide) (by decide) w6 HI.out q hq).mono ?_
   rintro e w7 ⟨rfl, hb7⟩
   have HW7 := hide (iNext HW6.out hb7)
   have HB5 := hide (bnext HB6.out hb7)
   have hsm : smallP p = q := by
    unfold smallP
    rw [decide_eq_true (by omega), Bool.true_and, hq]
   clear hb7 hq HW6 HB6 HI
   cases q with
   | false =>
    have E9 := hide (show false = R by rw [← HR.out]; exact (few21_no hkl (by rw [HX.out]; exact hsm)).symm)
    go_wp2
    go_ret
    exact ⟨ret_bool E9.out, HB5.out⟩
   | true =>
    have HK1 := hide (⟨HB5.out, HW7.out, fun x hx => by
     rw [List.take_succ_eq_append_getElem hkl, List.mem_append, List.mem_singleton, HX.out] at hx
     rcases hx with hx | rfl
     ·exact HALL.out x hx
     ·exact hsm⟩ : Below w.heap.size w w7 ∧ w7.heap[w.heap.size]? = some (.cells #[.string ⟨#[]⟩, .string ⟨#[]⟩, .int .i64 0, .slice (some ⟨bp, op, none⟩) n c, .slice none 0 0, .slice none 0 0] 66 (0, 0)) ∧ ∀ x ∈ ps.take (k + 1), smallP x = true)
    clear HB5 HW7 HALL hsm
    go_wp2_with fail
    go_roundw
    case rel => exact ⟨k + 1, by omega, by go_num, HK1⟩
    case measure => simp [intOf]; omega
  ·obtain rfl : k = n := by omega
   have E9 := hide (show true = R by
    rw [← HR.out]
    unfold few21
    rw [decide_eq_true (by have := HN.out; omega), Bool.true_and]
    symm
    rw [List.all_eq_true]
    intro x hx
    exact HK.out.2.2 x (by rw [List.take_of_length_le (Nat.le_of_eq HN.out)]; exact hx))
   have H2 := hide (And.intro HK.out.1 HK.out.2.1)
   clear HK
   go_wp2_with fail
   go_loopw [7] (fun iv wr => iv = .int .i64 0 ∧ Hid (Below w.heap.size w wr ∧ wr.heap[w.heap.size]? = some (.cells #[.string ⟨#[]⟩, .string ⟨#[]⟩, .int .i64 0, .slice AP k c, .slice none 0 0, .slice none 0 0] 66 (0, 0)))) (fun _ _ => 0)
   case atStart => exact ⟨rfl, H2⟩
   case round =>
    obtain ⟨rfl, H3⟩ := hrel
    clear H2 d3
    have d4 := cell_of_row _ _ 4 _ _ _ H3.out.2
    go_wp2_with fail
    clear d4
    go_loopw [8] (fun iv wr => iv = .int .i64 0 ∧ Hid (Below w.heap.size w wr ∧ wr.heap[w.heap.size]? = some (.cells #[.string ⟨#[]⟩, .string ⟨#[]⟩, .int .i64 0, .slice AP k c, .slice none 0 0, .slice none 0 0] 66 (0, 0)))) (fun _ _ => 0)
    case atStart => exact ⟨rfl, H3⟩
    case round =>
     obtain ⟨rfl, H4⟩ := hrel
     clear H3
     have d5 := cell_of_row _ _ 5 _ _ _ H4.out.2
     go_wp2
     go_ret
     exact ⟨ret_bool E9.out, H4.out.1⟩
theorem wp_app2 {α : Type} {L : Lay α} {w : World} {o : Oper} {a : Act} {K : Act → World → Prop} {Q : Exit → Act → World → Prop} (sl x : Operand) (t e : TypeId) (z : Value) (bytes : Nat)
  (ho : o.op = .call { callee := .builtin .append, args := #[sl, x], argTypes := #[t, t] }) (hu : Tryz.prog.underlying t = some (.slice e))
  (hi : (Tryz.prog.info? e).map (fun i => (i.zero, i.size, i.bytes)) = some (some z, L.k, bytes)) (hz : z.cells.size = L.k) (hk : 0 < L.k)
  (B B' : Nat) (v : Value) (l l' : List α) (hs : a.eval sl = v) (hO : Own1 L e w B v l) (A : Option Addr) (n cap : Nat) (hx : a.eval x = .slice A n cap) (hn : l'.length = n) (hr : Row1 L w B' A l')
  (hlen : (l.length + n) * bytes ≤ 140737488355328) (hby : 1 ≤ bytes) (hB : B ≤ w.heap.size)
  (h : ∀ v' w', Own1 L e w' B v' (l ++ l') → Below B w w' → w.grownBy w' v.ownBlock → (v'.ownBlock = v.ownBlock ∨ v'.ownBlock = some w.heap.size) → K (a.put o.dst v') w') : o.wp Tryz.prog a w K Q := by
 subst hn
 obtain ⟨i, h1, h2, h3, h4⟩ := info_parts hi
 have hbz : (l.length + l'.length) * bytes ≤ 140737488355328 := hlen
 have hln9 : l.length + l'.length ≤ 140737488355328 := Nat.le_trans (Nat.le_mul_of_pos_right _ hby) hlen
 have key : ∃ v' w', (Builtin.append_ #[t, t] o.type #[v, .slice A l'.length cap]).run Tryz.prog w = .ok v' w' ∧ Own1 L e w' B v' (l ++ l') ∧ w.grownBy w' v.ownBlock ∧ (v'.ownBlock = v.ownBlock ∨ v'.ownBlock = some w.heap.size) := by
  have run : ∀ ad : Addr, (∀ j u, (L.flat l')[j]? = some u → w.cell? (ad.add j) = some u) → ∃ v' w', (Builtin.append_ #[t, t] o.type #[v, .slice (some ad) l'.length cap]).run Tryz.prog w = .ok v' w' ∧ Own1 L e w' B v' (l ++ l') ∧ w.grownBy w' v.ownBlock ∧ (v'.ownBlock = v.ownBlock ∨ v'.ownBlock = some w.heap.size) := fun ad hc => by
   obtain ⟨v', w', hr, h5, h6, _, h7⟩ := run_append_own_at (P := Tryz.prog) w B t o.type e i z L.k bytes hu h1 h2 h3 h4 hz hk v l.length _ hO ad l'.length cap _ (L.flat_len l') hc (L.flat_one l') (by unfold maxLen; omega) hbz hB
   refine ⟨v', w', hr, ?_, h6, h7⟩
   unfold Own1
   rw [List.length_append, L.flat_append]
   exact h5
  cases A with
  | none =>
   have h0 : l' = [] := by
    rcases Nat.eq_zero_or_pos l'.length with h0 | h0
    ·exact List.length_eq_zero_iff.1 h0
    ·obtain ⟨_, _, e, _⟩ := hr.at_ h0
     cases e
   subst h0
   exact ⟨v, w, run_append_none (P := Tryz.prog) B t o.type e i L.k hu h1 v l.length _ hO cap, by rw [List.append_nil]; exact hO, ⟨rfl, rfl, rfl, Nat.le_refl _, fun _ _ _ => rfl⟩, Or.inl rfl⟩
  | some ad =>
   rcases Nat.eq_zero_or_pos l'.length with h0 | h0
   ·obtain rfl := List.length_eq_zero_iff.1 h0
    exact run ad fun j u hj => by rw [L.flat_nil] at hj; cases hj
   ·obtain ⟨b, off, e, _, hc⟩ := hr.at_ h0
    cases e
    exact run _ fun j u hj => by rw [addr_off]; exact hc j u hj
 obtain ⟨v', w', hrun, h5, h6, h7⟩ := key
 unfold Oper.wp execOp
 simp only [ho, resolve, invoke, builtin, Sem.run_bind, Sem.run_pure, Result.andThen_ok, List.map_toArray, List.map_cons, List.map_nil, hs, hx, hrun]
 exact h v' w' h5 ((Below.refl B w).grown h6 hB fun k hk => (World.ownsRow.lt hO k hk).1) h6 h7
theorem step_app2 {α : Type} {L : Lay α} {w : World} {ops : Array Oper} {rest : List Oper} {o : Oper} {a : Act} {Q : Exit → Act → World → Prop} (hgd : Region.wanted o (yielded ops a.tmps) = true) (sl x : Operand) (t e : TypeId) (z : Value) (bytes : Nat)
  (ho : o.op = .call { callee := .builtin .append, args := #[sl, x], argTypes := #[t, t] }) (hu : Tryz.prog.underlying t = some (.slice e))
  (hi : (Tryz.prog.info? e).map (fun i => (i.zero, i.size, i.bytes)) = some (some z, L.k, bytes)) (hz : z.cells.size = L.k) (hk : 0 < L.k)
  (B B' : Nat) (v : Value) (l l' : List α) (hs : a.eval sl = v) (hO : Own1 L e w B v l) (A : Option Addr) (n cap : Nat) (hx : a.eval x = .slice A n cap) (hn : l'.length = n) (hr : Row1 L w B' A l')
  (hlen : (l.length + n) * bytes ≤ 140737488355328) (hby : 1 ≤ bytes) (hB : B ≤ w.heap.size)
  (h : ∀ v' w', Own1 L e w' B v' (l ++ l') → Below B w w' → w.grownBy w' v.ownBlock → (v'.ownBlock = v.ownBlock ∨ v'.ownBlock = some w.heap.size) → wpList Tryz.prog ops Q rest (a.put o.dst v') w') : wpList Tryz.prog ops Q (o :: rest) a w :=
 wpList_wanted hgd fun _ hK => wp_app2 sl x t e z bytes ho hu hi hz hk B B' v l l' hs hO A n cap hx hn hr hlen hby hB fun v' w' h1 h2 h3 h4 => hK _ _ (h v' w' h1 h2 h3 h4)
theorem row_pt (w : World) (p : Dg.Pt) (ty : TypeId) : Row1 ptL (w.alloc (.cells (ptC p) ty)) (w.heap.size + 1) (some ⟨w.heap.size, 0, none⟩) [p] := ⟨fun _ => ⟨w.heap.size, 0, rfl, by omega, fun j u hu => by
 rw [cell_of_row _ _ _ _ _ _ (heap_alloc_new w _), ← Array.getElem?_toList, Nat.zero_add]
 have e : ptL.flat [p] = (ptC p).toList := by rfl
 rw [e] at hu
 exact hu⟩⟩
def few09 (l : List Dg.Ac) (ws : List Dg.Wy) : Bool := decide (l.length ≤ 20) && (decide (ws.length ≤ 40) && few21 (l.map (·.patch)) 20)
theorem few09_of (l : List Dg.Ac) (A : Option Addr) (nl cl : Nat) (hnl : l.length = nl) (hz : nl * 208 ≤ 140737488355328) (A2 : Option Addr) (nw cw : Nat) (ws : List Dg.Wy) (hnw : ws.length = nw) (w : World) (hr : Row1 acL w w.heap.size A l) (R : Bool) (hR : few09 l ws = R) :
  Calls Tryz.prog 6 #[.slice A nl cl, .slice A2 nw cw] w fun e w' => e = .returned (.bool R) ∧ Below w.heap.size w w' := by
 have HN := hide hnl; have HW := hide hnw; have HR := hide hr; have HRR := hide hR
 clear hnl hnw hr hR
 go_enter func6, ntmps6
 go_wp2_with fail
 go_loopw [5, 6] (fun v5 iv wr => ∃ k : Nat, k ≤ nl ∧ iv = .int .i64 k ∧ Hid (Own1 ptL 53 wr w.heap.size v5 ((l.take k).map (·.patch)) ∧ Below w.heap.size w wr)) (fun _ iv _ => nl - (intOf iv).toNat)
 case atStart => exact ⟨0, Nat.zero_le _, rfl, hide ⟨Own1.nil _ _ _ _, Below.refl _ _⟩⟩
 case round =>
  obtain ⟨k, hk, rfl, HK⟩ := hrel
  by_cases hlt : k < nl
  ·have hkl : k < l.length := by rw [HN.out]; exact hlt
   obtain ⟨b, off, rfl⟩ := row1_at HR.out hkl
   obtain ⟨a, ha⟩ : ∃ a, l[k] = a := ⟨_, rfl⟩
   have hac := act_cells (HR.out.below HK.out.2) hkl
   rw [ha] at hac
   have HRG : Hid (wr.rangeAt b (off + k * 18 + 3) (Rq0 a.patch)) := hide hac.2.2.2
   have HMP := hide (show (l.take (k + 1)).map (·.patch) = (l.take k).map (·.patch) ++ [a.patch] by
    rw [List.take_succ_eq_append_getElem hkl, ha, List.map_append]
    rfl)
   clear ha hac
   obtain ⟨ps, hps⟩ : ∃ ps, (l.take k).map (·.patch) = ps := ⟨_, rfl⟩
   have hpl : ps.length = k := by rw [← hps, List.length_map, List.length_take, Nat.min_eq_left (Nat.le_of_lt hkl)]
   have ho := HK.out.1
   rw [hps] at ho HMP
   have hbn := nwB wr (.cells (Rq0 a.patch) 53)
   have hz1 := HK.out.2.size
   have ho1 := ho.below hbn
   have rb : Row1 ptL (wr.alloc (.cells (Rq0 a.patch) 53)) (wr.heap.size + 1) (some ⟨wr.heap.size, 0, none⟩) [a.patch] := row_pt wr a.patch 53
   have hln : (ps.length + 1) * 208 ≤ 140737488355328 := by rw [hpl]; omega
   have hsz : w.heap.size ≤ (wr.alloc (.cells (Rq0 a.patch) 53)).heap.size := by simp; omega
   have HB3 := hide (bnext HK.out.2 hbn)
   have j0 : (0 : Int) ≤ (k : Int) := by omega
   have j1 : (k : Int) < (nl : Int) := by omega
   clear hps ho hbn HK hz1
   go_wp2_with (first | (with_reducible refine wpList_load_mid rfl 53 (.tmp 17) rfl b (off + k * 18 + 3) rfl _ _ HRG.out underlying53 rfl (by kernel_rfl) ?_) | (at_builtin; go_loud (refine step_app2 (L := ptL) rfl (.tmp 13) (.tmp 19) 37 53 _ 208 rfl underlying37 patchInfo rfl (by decide) w.heap.size (wr.heap.size + 1) _ ps [a.patch] rfl ho1 (some ⟨wr.heap.size, 0, none⟩) 1 1 rfl rfl rb hln (by decide) hsz ?_)))
   intro v9 w9 q1 q2 _ _
   have HK1 := hide (⟨by rw [HMP.out]; exact q1, HB3.out.trans q2⟩ : Own1 ptL 53 w9 w.heap.size v9 ((l.take (k + 1)).map (·.patch)) ∧ Below w.heap.size w w9)
   clear q1 q2 ho1 rb hsz hln HRG
   go_wp2_with fail
   go_roundw
   case rel => exact ⟨k + 1, by omega, by go_num, HK1⟩
   case measure => simp [intOf]; omega
  ·obtain rfl : k = nl := by omega
   have ho := HK.out.1
   rw [List.take_of_length_le (Nat.le_of_eq HN.out)] at ho
   have HB := hide HK.out.2
   obtain ⟨A5, c5, h5, hrow, _⟩ := ho.row
   rw [List.length_map, HN.out] at h5
   subst h5
   have HROW := hide hrow
   clear HK ho hrow
   by_cases h20 : (k : Int) ≤ 20
   ·by_cases h40 : (nw : Int) ≤ 40
    ·obtain ⟨q, hq⟩ : ∃ q, few21 (l.map (·.patch)) 20 = q := ⟨_, rfl⟩
     have E9 := hide (show q = R by rw [← HRR.out]; unfold few09; rw [decide_eq_true (by have := HN.out; omega), decide_eq_true (by have := HW.out; omega), hq]; rfl)
     have HF := hide (few21_of (l.map (·.patch)) A5 k c5 20 (by rw [List.length_map]; exact HN.out) (by omega) (by decide) wr HROW.out q hq)
     clear hq
     go_wp2_with fail
     refine HF.out.mono ?_
     rintro e w9 ⟨rfl, hb9⟩
     have HB9 := hide (HB.out.trans (hb9.mono HB.out.size))
     clear hb9 HF
     go_wp2
     go_ret
     exact ⟨ret_bool E9.out, HB9.out⟩
    ·have E9 := hide (show false = R by rw [← HRR.out]; unfold few09; rw [decide_eq_false (p := ws.length ≤ 40) (by have := HW.out; omega), Bool.false_and, Bool.and_false])
     go_wp2
     go_ret
     exact ⟨ret_bool E9.out, HB.out⟩
   ·have E9 := hide (show false = R by rw [← HRR.out]; unfold few09; rw [decide_eq_false (p := l.length ≤ 20) (by have := HN.out; omega), Bool.false_and])
    go_wp2
    go_ret
    exact ⟨ret_bool E9.out, HB.out⟩
def cmpI (x y : Int) : Int := if x < y then -1 else if y < x then 1 else 0
theorem nan_of (x : Int) (w : World) : Calls Tryz.prog 52 #[.int .i64 x] w fun e w' => e = .returned (.bool false) ∧ w' = w := by
 go_enter func52, ntmps52
 go_wp2
 go_ret
 exact ⟨by first | rfl | simp, rfl⟩
theorem compare_of (x y : Int) (w : World) : Calls Tryz.prog 29 #[.int .i64 x, .int .i64 y] w fun e w' => e = .returned (.int .i64 (cmpI x y)) ∧ w' = w := by
 go_enter func29, ntmps29
 go_wp2_with fail
 refine (nan_of x w).mono ?_
 rintro e w2 ⟨rfl, rfl⟩
 go_wp2_with fail
 refine (nan_of y w2).mono ?_
 rintro e w3 ⟨rfl, rfl⟩
 by_cases h1 : x < y
 ·go_wp2
  go_ret
  exact ⟨by unfold cmpI; rw [if_pos (by omega)]; rfl, rfl⟩
 ·by_cases h2 : y < x
  ·go_wp2
   go_ret
   exact ⟨by unfold cmpI; rw [if_neg (by omega), if_pos (by omega)]; rfl, rfl⟩
  ·go_wp2
   go_ret
   exact ⟨by unfold cmpI; rw [if_neg (by omega), if_neg (by omega)]; rfl, rfl⟩
def joinK (x y : Dg.Cl) : Int := orI (cmpI x.id.count y.id.count) (cmpI x.id.seat y.id.seat)
theorem joinK_of (x y : Dg.Cl) (w : World) :
  Calls Tryz.prog 27 #[.agg (clC x), .agg (clC y)] w fun e w' => e = .returned (.int .i64 (joinK x y)) ∧ Below w.heap.size w w' := by
 have hmx := hmxQ
 obtain ⟨r1, r2, hb, hs⟩ := iAlloc2 w (.cells (clC x) 55) (.cells (clC y) 55)
 have HB := hide hb
 go_enter func27, ntmps27
 go_upto_region 1 with fail
 generalize (w.alloc (.cells (clC x) 55)).alloc (.cells (clC y) 55) = w1 at *
 refine wp_region_noPanic ?_
 refine wp_region_L (Below w1.drew.heap.size w1.drew) 17 hmx ?_
 have hdr := (Below.refl w1.heap.size w1).drew
 have q1 := iNext r1 hdr
 have q2 := iNext r2 hdr
 have HR1 := hide (fun Z (hZ : Below w1.drew.heap.size w1.drew Z) => iNext q1 hZ)
 have HR2 := hide (fun Z (hZ : Below w1.drew.heap.size w1.drew Z) => iNext q2 hZ)
 have hH0 := Below.refl w1.drew.heap.size w1.drew
 have HBU := hide (bnext hb hdr)
 clear hdr q1 q2 r1 r2 hb hs HB
 generalize w1.drew = u0 at *
 refine tU 0 19 hH0 rfl ?_
 refine tU 1 19 hH0 rfl ?_
 refine tU 2 19 hH0 rfl ?_ (by intro wS hS; have f0 : wS.cell? ⟨w.heap.size, 1, none⟩ = some (.int .i64 x.id.count) := cell_of_row _ _ 1 _ _ _ (HR1.out wS hS); go_simp; (try with_reducible rfl))
 refine tU 3 19 hH0 rfl ?_
 refine tU 4 19 hH0 rfl ?_
 refine tU 5 19 hH0 rfl ?_ (by intro wS hS; have f0 : wS.cell? ⟨w.heap.size + 1, 1, none⟩ = some (.int .i64 y.id.count) := cell_of_row _ _ 1 _ _ _ (HR2.out wS hS); go_simp; (try with_reducible rfl))
 refine tU 7 19 hH0 rfl ?_
 refine tU 8 19 hH0 rfl ?_
 refine tU 9 19 hH0 rfl ?_ (by intro wS hS; have f0 : wS.cell? ⟨w.heap.size, 0, none⟩ = some (.int .i64 x.id.seat) := cell_of_row _ _ 0 _ _ _ (HR1.out wS hS); go_simp; (try with_reducible rfl))
 refine tU 10 19 hH0 rfl ?_
 refine tU 11 19 hH0 rfl ?_
 refine tU 12 19 hH0 rfl ?_ (by intro wS hS; have f0 : wS.cell? ⟨w.heap.size + 1, 0, none⟩ = some (.int .i64 y.id.seat) := cell_of_row _ _ 0 _ _ _ (HR2.out wS hS); go_simp; (try with_reducible rfl))
 refine oY 6 fun K hK => ?_
 go_simp
 refine (compare_of x.id.count y.id.count u0).mono ?_
 rintro e u9 ⟨rfl, rfl⟩
 refine hK.out _ _ (Or.inr hH0) ?_
 clear hK K
 try simp only [Act.put, pu]
 refine oY 13 fun K hK => ?_
 go_simp
 refine (compare_of x.id.seat y.id.seat u9).mono ?_
 rintro e u9 ⟨rfl, rfl⟩
 refine hK.out _ _ (Or.inr hH0) ?_
 clear hK K
 try simp only [Act.put, pu]
 refine oY 14 fun K hK => ?_
 go_simp
 have hx := nwB u9 (.cells #[.int .i64 (cmpI x.id.count y.id.count), .int .i64 (cmpI x.id.seat y.id.seat)] 3)
 have r3 := heap_alloc_new u9 (.cells #[.int .i64 (cmpI x.id.count y.id.count), .int .i64 (cmpI x.id.seat y.id.seat)] 3)
 have hH1 := hH0.trans (hx.mono hH0.size)
 refine hK.out _ _ (Or.inr hH1) ?_
 clear hK K hx
 try simp only [Act.put, pu]
 refine oY 15 fun K hK => ?_
 go_simp
 refine (or_of _ _ _ _ (cell_of_row _ _ 0 _ _ _ r3) (cell_of_row _ _ 1 _ _ _ r3)).mono ?_
 rintro e u8 ⟨rfl, rfl⟩
 refine hK.out _ _ (Or.inr hH1) ?_
 clear hK K
 try simp only [Act.put, pu]
 refine tU 16 19 hH1 rfl ?_
 refine dnY ?_
 have HB9 := hide (bnext HBU.out hH1)
 clear hH1 r3 HR1 HR2 HBU hH0
 go_wp2
 go_ret
 exact ⟨rfl, HB9.out⟩
namespace Dg
def atJ (l : List Cl) (i : Nat) : Cl := l.getD i Cl0
def swpJ (l : List Cl) (i j : Nat) : List Cl := (l.set i (atJ l j)).set j (atJ l i)
theorem swpJ_len (l : List Cl) (i j : Nat) : (swpJ l i j).length = l.length := by unfold swpJ; rw [List.length_set, List.length_set]
def insJ (lt : Cl → Cl → Bool) (a : Nat) : Nat → List Cl → List Cl
 | 0, l => l
 | j + 1, l => if a < j + 1 ∧ lt (atJ l (j + 1)) (atJ l j) = true then insJ lt a j (swpJ l (j + 1) j) else l
theorem insJ_len (lt : Cl → Cl → Bool) (a : Nat) : ∀ (j : Nat) (l : List Cl), (insJ lt a j l).length = l.length
 | 0, _ => rfl
 | j + 1, l => by
  unfold insJ
  split
  ·rw [insJ_len lt a j, swpJ_len]
  ·rfl
def insR (lt : Cl → Cl → Bool) (a : Nat) : Nat → Nat → List Cl → List Cl
 | 0, _, l => l
 | k + 1, i, l => insR lt a k (i + 1) (insJ lt a i l)
theorem insR_len (lt : Cl → Cl → Bool) (a : Nat) : ∀ (k i : Nat) (l : List Cl), (insR lt a k i l).length = l.length
 | 0, _, _ => rfl
 | k + 1, i, l => by unfold insR; rw [insR_len lt a k, insJ_len]
def insB (lt : Cl → Cl → Bool) (l : List Cl) (a b : Nat) : List Cl := insR lt a (b - (a + 1)) (a + 1) l
theorem insB_len (lt : Cl → Cl → Bool) (l : List Cl) (a b : Nat) : (insB lt l a b).length = l.length := insR_len _ _ _ _ _
def swrJ (a b : Nat) : Nat → Nat → List Cl → List Cl
 | 0, _, l => l
 | k + 1, i, l => swrJ a b k (i + 1) (swpJ l (a + i) (b + i))
theorem swrJ_len (a b : Nat) : ∀ (k i : Nat) (l : List Cl), (swrJ a b k i l).length = l.length
 | 0, _, _ => rfl
 | k + 1, i, l => by unfold swrJ; rw [swrJ_len a b k, swpJ_len]
def rotJ (m : Nat) : Nat → Nat → Nat → List Cl → List Cl
 | 0, _, _, l => l
 | f + 1, i, j, l => if i = j then swrJ (m - i) m i 0 l else if j < i then rotJ m f (i - j) j (swrJ (m - i) m j 0 l) else rotJ m f i (j - i) (swrJ (m - i) (m + j - i) i 0 l)
theorem rotJ_len (m : Nat) : ∀ (f i j : Nat) (l : List Cl), (rotJ m f i j l).length = l.length
 | 0, _, _, _ => rfl
 | f + 1, i, j, l => by
  unfold rotJ
  split
  ·exact swrJ_len _ _ _ _ _
  ·split
   ·rw [rotJ_len m f, swrJ_len]
   ·rw [rotJ_len m f, swrJ_len]
def bisJ (p : Nat → Bool) : Nat → Nat → Nat → Nat
 | 0, i, _ => i
 | f + 1, i, j => if i < j then (if p ((i + j) / 2) = true then bisJ p f ((i + j) / 2 + 1) j else bisJ p f i ((i + j) / 2)) else i
theorem bisJ_in (p : Nat → Bool) : ∀ (f i j : Nat), i ≤ j → i ≤ bisJ p f i j ∧ bisJ p f i j ≤ j
 | 0, i, j, h => ⟨Nat.le_refl _, h⟩
 | f + 1, i, j, h => by
  unfold bisJ
  split
  ·split
   ·have := bisJ_in p f ((i + j) / 2 + 1) j (by omega)
    omega
   ·have := bisJ_in p f i ((i + j) / 2) (by omega)
    omega
  ·omega
def shuJ : Nat → Nat → List Cl → List Cl
 | 0, _, l => l
 | n + 1, k, l => shuJ n (k + 1) (swpJ l k (k + 1))
theorem shuJ_len : ∀ (n k : Nat) (l : List Cl), (shuJ n k l).length = l.length
 | 0, _, _ => rfl
 | n + 1, k, l => by unfold shuJ; rw [shuJ_len n, swpJ_len]
def shdJ : Nat → Nat → List Cl → List Cl
 | 0, _, l => l
 | n + 1, k, l => shdJ n (k - 1) (swpJ l k (k - 1))
theorem shdJ_len : ∀ (n k : Nat) (l : List Cl), (shdJ n k l).length = l.length
 | 0, _, _ => rfl
 | n + 1, k, l => by unfold shdJ; rw [shdJ_len n, swpJ_len]
def lowJ (lt : Cl → Cl → Bool) (a m b : Nat) (l : List Cl) : Nat := bisJ (fun h => lt (atJ l h) (atJ l a)) (b - m + 1) m b
def topJ (lt : Cl → Cl → Bool) (a m : Nat) (l : List Cl) : Nat := bisJ (fun h => !lt (atJ l m) (atJ l h)) (m - a + 1) a m
def st0J (a m b : Nat) : Nat := if (a + b) / 2 < m then (a + b) / 2 + m - b else a
def r0J (a m b : Nat) : Nat := if (a + b) / 2 < m then (a + b) / 2 else m
def cutJ (lt : Cl → Cl → Bool) (a m b : Nat) (l : List Cl) : Nat := bisJ (fun c => !lt (atJ l ((a + b) / 2 + m - 1 - c)) (atJ l c)) (r0J a m b - st0J a m b + 1) (st0J a m b) (r0J a m b)
def turnJ (m st en : Nat) (l : List Cl) : List Cl := if st < m ∧ m < en then rotJ m (en - st + 1) (m - st) (en - m) l else l
theorem turnJ_len (m st en : Nat) (l : List Cl) : (turnJ m st en l).length = l.length := by
 unfold turnJ
 split
 ·exact rotJ_len _ _ _ _ _
 ·rfl
def symJ (lt : Cl → Cl → Bool) : Nat → Nat → Nat → Nat → List Cl → List Cl
 | 0, _, _, _, l => l
 | f + 1, a, m, b, l =>
  if m - a = 1 then shuJ (lowJ lt a m b l - 1 - a) a l
  else if b - m = 1 then shdJ (m - topJ lt a m l) m l
  else
   let l1 := turnJ m (cutJ lt a m b l) ((a + b) / 2 + m - cutJ lt a m b l) l
   let l2 := if a < cutJ lt a m b l ∧ cutJ lt a m b l < (a + b) / 2 then symJ lt f a (cutJ lt a m b l) ((a + b) / 2) l1 else l1
   if (a + b) / 2 < (a + b) / 2 + m - cutJ lt a m b l ∧ (a + b) / 2 + m - cutJ lt a m b l < b then symJ lt f ((a + b) / 2) ((a + b) / 2 + m - cutJ lt a m b l) b l2 else l2
theorem symJ_len (lt : Cl → Cl → Bool) : ∀ (f a m b : Nat) (l : List Cl), (symJ lt f a m b l).length = l.length
 | 0, _, _, _, _ => rfl
 | f + 1, a, m, b, l => by
  have ht := turnJ_len m (cutJ lt a m b l) ((a + b) / 2 + m - cutJ lt a m b l) l
  unfold symJ
  split
  ·exact shuJ_len _ _ _
  ·split
   ·exact shdJ_len _ _ _
   ·dsimp only
    split
    ·rw [symJ_len lt f]
     split
     ·rw [symJ_len lt f, ht]
     ·exact ht
    ·split
     ·rw [symJ_len lt f, ht]
     ·exact ht
def stabJ (lt : Cl → Cl → Bool) (l : List Cl) : List Cl :=
 if l.length < 20 then insB lt l 0 l.length
 else if l.length = 20 then insB lt l 0 20
 else symJ lt 41 0 20 l.length (insB lt (insB lt l 0 20) 20 l.length)
theorem stabJ_len (lt : Cl → Cl → Bool) (l : List Cl) : (stabJ lt l).length = l.length := by
 unfold stabJ
 split
 ·exact insB_len _ _ _ _
 ·split
  ·exact insB_len _ _ _ _
  ·rw [symJ_len, insB_len, insB_len]
end Dg
structure RowJ (g : Nat) (sp : List Value) (B : Nat) (l : List Dg.Cl) (X Y : World) : Prop where
 row : Y.heap[g]? = some (.cells (clL.flat l ++ sp).toArray 55 (0, 0))
 below : Below B X Y
theorem RowJ.at {g B : Nat} {sp : List Value} {l : List Dg.Cl} {X Y : World} (h : RowJ g sp B l X Y) (i : Nat) (hi : i < l.length) {x : Dg.Cl} (hx : Dg.atJ l i = x) : Y.rangeAt g (i * 20) (clC x).toList := by
 have e : l[i] = x := by
  rw [← hx]
  unfold Dg.atJ
  rw [List.getD_eq_getElem?_getD, List.getElem?_eq_getElem hi, Option.getD_some]
 exact range_of h.row (i * 20) _ (by rw [← e]; exact flat_at l sp i hi)
theorem RowJ.next {g B : Nat} {sp : List Value} {l : List Dg.Cl} {X Y Z : World} (h : RowJ g sp B l X Y) (hB : B ≤ X.heap.size) (hb : Below Y.heap.size Y Z) : RowJ g sp B l X Z :=
 ⟨iNext h.row hb, h.below.trans (hb.mono (Nat.le_trans hB h.below.size))⟩
theorem RowJ.set {g B : Nat} {sp : List Value} {l : List Dg.Cl} {X Y : World} (h : RowJ g sp B l X Y) (hBg : B ≤ g) (i : Nat) (x : Dg.Cl) : RowJ g sp B (l.set i x) X (Y.setRow g (clL.flat (l.set i x) ++ sp).toArray) :=
 ⟨setRow_heap Y g _ (clL.flat (l.set i x) ++ sp).toArray _ _ h.row, below_setRow h.below hBg (clL.flat (l.set i x) ++ sp).toArray⟩
theorem RowJ.run {g B : Nat} {sp : List Value} {l : List Dg.Cl} {X Y : World} (h : RowJ g sp B l X Y) (i : Nat) (hi : i < l.length) (x : Dg.Cl) : (Instr.storeAt 55 (.pointer (some ⟨g, i * 20, none⟩)) (.agg (clC x))).run Tryz.prog Y = .ok () (Y.setRow g (clL.flat (l.set i x) ++ sp).toArray) :=
 store_elem clL Y g l sp i hi x (clC x) rfl h.row (by kernel_rfl)
attribute [-go_sem] Instr.storeAt in
theorem swr_of (g cap B : Nat) (sp : List Value) (X : World) (hBg : B ≤ g) (hBX : B ≤ X.heap.size) (L : Nat) (hLz : L ≤ 1000000) (a b n : Nat) (ha : a + n ≤ L) (hb : b + n ≤ L) (fv : Value) (l : List Dg.Cl) (hL : l.length = L) (R : List Dg.Cl) (hR : Dg.swrJ a b n 0 l = R) (w : World) (hw : RowJ g sp B l X w) :
  Calls Tryz.prog 119 #[.slice (some ⟨g, 0, none⟩) L cap, .int .i64 a, .int .i64 b, .int .i64 n, fv] w fun e w' => e = .returned (.tuple #[]) ∧ RowJ g sp B R X w' := by
 have hmx := hmxQ
 have H0 := hide (⟨hL, hR, hw⟩ : l.length = L ∧ Dg.swrJ a b n 0 l = R ∧ RowJ g sp B l X w)
 clear hL hR hw
 go_enter func119, ntmps119
 go_wp2_with fail
 go_loopw [10] (fun iv wr => ∃ (i : Nat) (lk : List Dg.Cl), i ≤ n ∧ iv = .int .i64 i ∧ Hid (lk.length = L ∧ Dg.swrJ a b (n - i) i lk = R ∧ RowJ g sp B lk X wr)) (fun iv _ => n - (intOf iv).toNat)
 case atStart => exact ⟨0, l, Nat.zero_le _, rfl, H0⟩
 case round =>
  clear H0
  obtain ⟨i, lk, hi, rfl, HK⟩ := hrel
  by_cases hlt : i < n
  ·have hl0 := HK.out.1
   obtain ⟨p, hp⟩ : ∃ p, a + i = p := ⟨_, rfl⟩
   obtain ⟨q, hq⟩ : ∃ q, b + i = q := ⟨_, rfl⟩
   obtain ⟨x1, hx1⟩ : ∃ x, Dg.atJ lk p = x := ⟨_, rfl⟩
   obtain ⟨x2, hx2⟩ : ∃ x, Dg.atJ lk q = x := ⟨_, rfl⟩
   have hsw : Dg.swrJ a b (n - (i + 1)) (i + 1) ((lk.set p x2).set q x1) = R := by
    rw [← HK.out.2.1, show n - i = (n - (i + 1)) + 1 by omega, Dg.swrJ, hp, hq, Dg.swpJ, hx1, hx2]
   have HSW := hide hsw
   clear hsw
   go_upto_region 3 with fail
   refine wp_region_noPanic ?_
   refine wp_region_L (fun Z => RowJ g sp B lk X Z) 21 hmx ?_
   have hH0 : RowJ g sp B lk X wr.drew := HK.out.2.2.next hBX (Below.refl _ _).drew
   have hst1 := hH0.run p (by omega) x2
   have hH1 := hH0.set hBg p x2
   have hst2 := hH1.run q (by rw [List.length_set]; omega) x1
   have hH2 := hH1.set hBg q x1
   have e1 : IntKind.i64.wrap ((a : Int) + (i : Int)) = (p : Int) := by rw [IntWalk.i64_in _ (by omega)]; omega
   have e2 : IntKind.i64.wrap ((b : Int) + (i : Int)) = (q : Int) := by rw [IntWalk.i64_in _ (by omega)]; omega
   have i0 : (0 : Int) ≤ (p : Int) := by omega
   have i1 : (p : Int) < (L : Int) := by omega
   have i2 : (0 : Int) ≤ (q : Int) := by omega
   have i3 : (q : Int) < (L : Int) := by omega
   clear HK
   generalize wr.drew = u0 at *
   refine tW 0 hH0 rfl ?_
   refine tW 1 hH0 rfl ?_
   refine tW 2 hH0 rfl ?_
   refine tW 3 hH0 rfl ?_
   refine tW 4 hH0 rfl ?_
   refine tW 5 hH0 rfl ?_
   refine tW 6 hH0 rfl ?_
   refine tW 7 hH0 rfl ?_
   refine tW 8 hH0 rfl ?_
   refine tW 9 hH0 rfl ?_
   refine tW 10 hH0 rfl ?_
   refine tW 11 hH0 rfl ?_
   refine tW 12 hH0 rfl ?_
   refine tkV 13 26 (.agg (clC x2)) rfl (by exact yieldsIf_load_mid (by rfl) 55 (.tmp 28) rfl g (q * 20) rfl (clC x2).toList _ (fun Z hZ => hZ.at (q) (by omega) hx2) underlying55 rfl (by kernel_rfl)) hH0 ?_
   simp only [Act.put, pu]
   refine tW 14 hH0 rfl ?_
   refine tW 15 hH0 rfl ?_
   refine tW 16 hH0 rfl ?_
   refine tW 17 hH0 rfl ?_
   refine tW 18 hH0 rfl ?_
   refine tkV 19 26 (.agg (clC x1)) rfl (by exact yieldsIf_load_mid (by rfl) 55 (.tmp 34) rfl g (p * 20) rfl (clC x1).toList _ (fun Z hZ => hZ.at (p) (by omega) hx1) underlying55 rfl (by kernel_rfl)) hH0 ?_
   simp only [Act.put, pu]
   refine tW 20 hH0 rfl ?_
   refine oY 21 fun K hK => ?_
   go_simp
   refine hK.out _ _ (Or.inl rfl) ?_
   clear hK K hst1
   try simp only [Act.put, pu]
   generalize u0.setRow g (clL.flat (lk.set p x2) ++ sp).toArray = u1 at *
   refine oY 22 fun K hK => ?_
   go_simp
   refine hK.out _ _ (Or.inl rfl) ?_
   clear hK K
   try simp only [Act.put, pu]
   refine oY 23 fun K hK => ?_
   go_simp
   refine hK.out _ _ (Or.inl rfl) ?_
   clear hK K hst2
   try simp only [Act.put, pu]
   refine dnY ?_
   have HK1 := hide (⟨by rw [List.length_set, List.length_set]; exact hl0, HSW.out, hH2⟩ : ((lk.set p x2).set q x1).length = L ∧ Dg.swrJ a b (n - (i + 1)) (i + 1) ((lk.set p x2).set q x1) = R ∧ RowJ g sp B ((lk.set p x2).set q x1) X _)
   clear hH0 hH1 hH2 HSW hl0 hx1 hx2
   go_wp2_with fail
   go_roundw
   case rel => exact ⟨i + 1, _, by omega, by go_num, HK1⟩
   case measure => simp [intOf]; omega
  ·obtain rfl : i = n := by omega
   have hfin := HK.out.2.1
   rw [Nat.sub_self, Dg.swrJ] at hfin
   have hrw := HK.out.2.2
   rw [hfin] at hrw
   go_wp2
   go_end0
   exact ⟨rfl, hrw⟩
def ltK (x y : Dg.Cl) : Bool := decide (joinK x y < 0)
attribute [-go_sem] Instr.storeAt in
theorem insB_of (g cap B : Nat) (sp : List Value) (X : World) (hBg : B ≤ g) (hBX : B ≤ X.heap.size) (L : Nat) (hLz : L ≤ 1000000) (a b : Nat) (hab : a ≤ b) (hb : b ≤ L) (l : List Dg.Cl) (hL : l.length = L) (R : List Dg.Cl) (hR : Dg.insB ltK l a b = R) (w : World) (hw : RowJ g sp B l X w) :
  Calls Tryz.prog 80 #[.slice (some ⟨g, 0, none⟩) L cap, .int .i64 a, .int .i64 b, .func (.func 27) #[] #[]] w fun e w' => e = .returned (.tuple #[]) ∧ RowJ g sp B R X w' := by
 have hmx := hmxQ
 have H0 := hide (⟨hL, hR, hw⟩ : l.length = L ∧ Dg.insR ltK a (b - (a + 1)) (a + 1) l = R ∧ RowJ g sp B l X w)
 clear hL hR hw
 go_enter func80, ntmps80
 go_wp2_with fail
 go_loopw [8] (fun iv wr => ∃ (i : Nat) (lk : List Dg.Cl), a + 1 ≤ i ∧ i ≤ L + 1 ∧ iv = .int .i64 i ∧ Hid (lk.length = L ∧ Dg.insR ltK a (b - i) i lk = R ∧ RowJ g sp B lk X wr)) (fun iv _ => b - (intOf iv).toNat)
 case atStart => exact ⟨a + 1, l, Nat.le_refl _, by omega, by go_num, H0⟩
 case round =>
  clear H0
  obtain ⟨i, lk, hi, hi2, rfl, HK⟩ := hrel
  by_cases hlt : i < b
  ·obtain ⟨R1, hR1⟩ : ∃ R1, Dg.insJ ltK a i lk = R1 := ⟨_, rfl⟩
   have hr1 : Dg.insR ltK a (b - (i + 1)) (i + 1) R1 = R := by
    rw [← HK.out.2.1, show b - i = (b - (i + 1)) + 1 by omega, Dg.insR, hR1]
   have hl1 : R1.length = L := by rw [← hR1, Dg.insJ_len]; exact HK.out.1
   have HR1 := hide (And.intro hr1 hl1)
   have HJ0 := hide (⟨HK.out.1, hR1, HK.out.2.2⟩ : lk.length = L ∧ Dg.insJ ltK a i lk = R1 ∧ RowJ g sp B lk X wr)
   clear hr1 hl1 HK hR1
   go_wp2_with fail
   go_loopw [9] (fun jv wr => ∃ (j : Nat) (lk : List Dg.Cl), a ≤ j ∧ j ≤ i ∧ jv = .int .i64 j ∧ Hid (lk.length = L ∧ Dg.insJ ltK a j lk = R1 ∧ RowJ g sp B lk X wr)) (fun jv _ => (intOf jv).toNat)
   case atStart => exact ⟨i, lk, by omega, Nat.le_refl _, rfl, HJ0⟩
   case round =>
    clear HJ0
    obtain ⟨jj, lk, hj, hj2, rfl, HJ⟩ := hrel
    by_cases hja : a < jj
    ·obtain ⟨j, rfl⟩ : ∃ j, jj = j + 1 := ⟨jj - 1, by omega⟩
     have hl0 := HJ.out.1
     obtain ⟨x1, hx1⟩ : ∃ x, Dg.atJ lk (j + 1) = x := ⟨_, rfl⟩
     obtain ⟨x2, hx2⟩ : ∃ x, Dg.atJ lk j = x := ⟨_, rfl⟩
     have hun := HJ.out.2.1
     rw [Dg.insJ, hx1, hx2] at hun
     have HUN := hide hun
     have hcast : ((j + 1 : Nat) : Int) = (j : Int) + 1 := by omega
     rw [hcast]
     go_upto_region 4 with fail
     refine wp_region_noPanic ?_
     refine wp_region_L (fun Z => RowJ g sp B lk X Z) 99 hmx ?_
     have hH0 : RowJ g sp B lk X wr.drew := HJ.out.2.2.next hBX (Below.refl _ _).drew
     have i0 : (0 : Int) ≤ (j : Int) := by omega
     have i1 : (j : Int) + 1 < (L : Int) := by omega
     have i3 : (0 : Int) ≤ (j : Int) + 1 := by omega
     have i4 : (j : Int) < (L : Int) := by omega
     have i2 : (a : Int) < (j : Int) + 1 := by omega
     have e3 : IntKind.i64.wrap ((j : Int) + 1 - 1) = (j : Int) := by rw [IntWalk.i64_in _ (by omega)]; omega
     have e4 : IntKind.i64.wrap (j : Int) = (j : Int) := IntWalk.i64_in _ (by omega)
     clear HJ hun
     generalize wr.drew = u0 at *
     refine tU 0 19 hH0 rfl ?_
     refine tU 1 19 hH0 rfl ?_
     refine tU 2 19 hH0 rfl ?_
     refine tU 3 19 hH0 rfl ?_
     refine tU 4 19 hH0 rfl ?_
     refine tU 5 19 hH0 rfl ?_
     refine tU 6 19 hH0 rfl ?_
     refine tU 7 19 hH0 rfl ?_
     refine tkV 8 19 (.agg (clC x1)) rfl (by exact yieldsIf_load_mid (by rfl) 55 (.tmp 25) rfl g ((j + 1) * 20) rfl (clC x1).toList _ (fun Z hZ => hZ.at ((j + 1)) (by omega) hx1) underlying55 rfl (by kernel_rfl)) hH0 ?_
     simp only [Act.put, pu]
     refine tU 9 19 hH0 rfl ?_
     refine tU 10 19 hH0 rfl ?_
     refine tU 11 19 hH0 rfl ?_
     refine tU 12 19 hH0 rfl ?_
     refine tkV 13 19 (.agg (clC x2)) rfl (by exact yieldsIf_load_mid (by rfl) 55 (.tmp 30) rfl g (j * 20) rfl (clC x2).toList _ (fun Z hZ => hZ.at (j) (by omega) hx2) underlying55 rfl (by kernel_rfl)) hH0 ?_
     simp only [Act.put, pu]
     refine oY 14 fun K hK => ?_
     go_simp
     refine (joinK_of x1 x2 u0).mono ?_
     rintro e u9 ⟨rfl, hb9⟩
     have hH1 := hH0.next hBX hb9
     refine hK.out _ _ (Or.inr hH1) ?_
     clear hK K hb9
     try simp only [Act.put, pu]
     refine tU 15 19 hH1 rfl ?_
     refine tU 16 19 hH1 rfl ?_
     refine dnY ?_
     clear hH0
     by_cases hc : joinK x1 x2 < 0
     ·have hsw : Dg.insJ ltK a j ((lk.set (j + 1) x2).set j x1) = R1 := by
       rw [← HUN.out, if_pos ⟨hja, decide_eq_true hc⟩, Dg.swpJ, hx1, hx2]
      have HSW := hide hsw
      clear hsw HUN
      go_upto_region 6 with fail
      refine wp_region_noPanic ?_
      refine wp_region_L (fun Z => RowJ g sp B lk X Z) 15 hmx ?_
      have hH0 : RowJ g sp B lk X u9.drew := hH1.next hBX (Below.refl _ _).drew
      clear hH1
      generalize u9.drew = u0 at *
      have hst1 := hH0.run (j + 1) (by omega) x2
      have hH1 := hH0.set hBg (j + 1) x2
      have hst2 := hH1.run j (by rw [List.length_set]; omega) x1
      have hH2 := hH1.set hBg j x1
      refine tW 0 hH0 rfl ?_
      refine tW 1 hH0 rfl ?_
      refine tW 2 hH0 rfl ?_
      refine tW 3 hH0 rfl ?_
      refine tW 4 hH0 rfl ?_
      refine tW 5 hH0 rfl ?_
      refine tW 6 hH0 rfl ?_
      refine tW 7 hH0 rfl ?_
      refine tW 8 hH0 rfl ?_
      refine tkV 9 20 (.agg (clC x2)) rfl (by exact yieldsIf_load_mid (by rfl) 55 (.tmp 45) rfl g (j * 20) rfl (clC x2).toList _ (fun Z hZ => hZ.at (j) (by omega) hx2) underlying55 rfl (by kernel_rfl)) hH0 ?_
      simp only [Act.put, pu]
      refine tW 10 hH0 rfl ?_
      refine tW 11 hH0 rfl ?_
      refine tW 12 hH0 rfl ?_
      refine tkV 13 20 (.agg (clC x1)) rfl (by exact yieldsIf_load_mid (by rfl) 55 (.tmp 49) rfl g ((j + 1) * 20) rfl (clC x1).toList _ (fun Z hZ => hZ.at ((j + 1)) (by omega) hx1) underlying55 rfl (by kernel_rfl)) hH0 ?_
      simp only [Act.put, pu]
      refine tW 14 hH0 rfl ?_
      refine oY 15 fun K hK => ?_
      go_simp
      refine hK.out _ _ (Or.inl rfl) ?_
      clear hK K hst1
      try simp only [Act.put, pu]
      generalize u0.setRow g (clL.flat (lk.set (j + 1) x2) ++ sp).toArray = u1 at *
      refine oY 16 fun K hK => ?_
      go_simp
      refine hK.out _ _ (Or.inl rfl) ?_
      clear hK K
      try simp only [Act.put, pu]
      refine oY 17 fun K hK => ?_
      go_simp
      refine hK.out _ _ (Or.inl rfl) ?_
      clear hK K hst2
      try simp only [Act.put, pu]
      refine dnY ?_
      have HK1 := hide (⟨by rw [List.length_set, List.length_set]; exact hl0, HSW.out, hH2⟩ : ((lk.set (j + 1) x2).set j x1).length = L ∧ Dg.insJ ltK a j ((lk.set (j + 1) x2).set j x1) = R1 ∧ RowJ g sp B ((lk.set (j + 1) x2).set j x1) X _)
      clear hH0 hH1 hH2 HSW hl0 hx1 hx2
      go_wp2_with fail
      go_roundw
      case rel => exact ⟨j, _, by omega, by omega, by go_num, HK1⟩
      case measure => first | (simp [intOf]; done) | (simp [intOf]; omega)
     ·have hfin : lk = R1 := by
       rw [← HUN.out, if_neg (fun h => hc (of_decide_eq_true h.2))]
      subst hfin
      have HN1 := hide (⟨HR1.out.2, HR1.out.1, hH1⟩ : lk.length = L ∧ Dg.insR ltK a (b - (i + 1)) (i + 1) lk = R ∧ RowJ g sp B lk X u9)
      clear hH1 HUN hx1 hx2 hl0
      go_wp2_with fail
      go_roundw
      case rel => exact ⟨i + 1, _, by omega, by omega, by go_num, HN1⟩
      case measure => first | (simp [intOf]; done) | (simp [intOf]; omega)
    ·obtain rfl : jj = a := by omega
     have hfin : lk = R1 := by
      rw [← HJ.out.2.1]
      cases jj with
      | zero => rfl
      | succ n => rw [Dg.insJ, if_neg (fun h => by omega)]
     subst hfin
     go_upto_region 4 with fail
     refine wp_region_noPanic ?_
     refine wp_region_L (fun Z => RowJ g sp B lk X Z) 99 hmx ?_
     have hH0 : RowJ g sp B lk X wr.drew := HJ.out.2.2.next hBX (Below.refl _ _).drew
     clear HJ
     generalize wr.drew = u0 at *
     refine tU 0 19 hH0 rfl ?_
     refine tU 1 19 hH0 rfl ?_
     refine tU 2 19 hH0 rfl ?_
     refine tU 3 19 hH0 rfl ?_
     refine tkV 4 19 (undef) rfl (Or.inr ⟨by rfl, rfl⟩) hH0 ?_
     simp only [Act.put, pu]
     refine tkV 5 19 (undef) rfl (Or.inr ⟨by rfl, rfl⟩) hH0 ?_
     simp only [Act.put, pu]
     refine tkV 6 19 (undef) rfl (Or.inr ⟨by rfl, rfl⟩) hH0 ?_
     simp only [Act.put, pu]
     refine tkV 7 19 (undef) rfl (Or.inr ⟨by rfl, rfl⟩) hH0 ?_
     simp only [Act.put, pu]
     refine tkV 8 19 (undef) rfl (Or.inr ⟨by rfl, rfl⟩) hH0 ?_
     simp only [Act.put, pu]
     refine tkV 9 19 (undef) rfl (Or.inr ⟨by rfl, rfl⟩) hH0 ?_
     simp only [Act.put, pu]
     refine tkV 10 19 (undef) rfl (Or.inr ⟨by rfl, rfl⟩) hH0 ?_
     simp only [Act.put, pu]
     refine tkV 11 19 (undef) rfl (Or.inr ⟨by rfl, rfl⟩) hH0 ?_
     simp only [Act.put, pu]
     refine tkV 12 19 (undef) rfl (Or.inr ⟨by rfl, rfl⟩) hH0 ?_
     simp only [Act.put, pu]
     refine tkV 13 19 (undef) rfl (Or.inr ⟨by rfl, rfl⟩) hH0 ?_
     simp only [Act.put, pu]
     refine tkV 14 19 (undef) rfl (Or.inr ⟨by rfl, rfl⟩) hH0 ?_
     simp only [Act.put, pu]
     refine tkV 15 19 (undef) rfl (Or.inr ⟨by rfl, rfl⟩) hH0 ?_
     simp only [Act.put, pu]
     refine tU 16 19 hH0 rfl ?_
     refine dnY ?_
     have HN1 := hide (⟨HR1.out.2, HR1.out.1, hH0⟩ : lk.length = L ∧ Dg.insR ltK jj (b - (i + 1)) (i + 1) lk = R ∧ RowJ g sp B lk X u0)
     clear hH0
     go_wp2_with fail
     go_roundw
     case rel => exact ⟨i + 1, _, by omega, by omega, by go_num, HN1⟩
     case measure => first | (simp [intOf]; done) | (simp [intOf]; omega)
  ·have hfin := HK.out.2.1
   rw [show b - i = 0 by omega, Dg.insR] at hfin
   have hrw := HK.out.2.2
   rw [hfin] at hrw
   go_wp2
   go_end0
   exact ⟨rfl, hrw⟩
theorem rot_of (g cap B : Nat) (sp : List Value) (X : World) (hBg : B ≤ g) (hBX : B ≤ X.heap.size) (L : Nat) (hLz : L ≤ 1000000) (a m b : Nat) (ham : a < m) (hmb : m < b) (hb : b ≤ L) (l : List Dg.Cl) (hL : l.length = L) (R : List Dg.Cl) (hR : Dg.rotJ m (b - a + 1) (m - a) (b - m) l = R) (w : World) (hw : RowJ g sp B l X w) :
  Calls Tryz.prog 101 #[.slice (some ⟨g, 0, none⟩) L cap, .int .i64 a, .int .i64 m, .int .i64 b, .func (.func 27) #[] #[]] w fun e w' => e = .returned (.tuple #[]) ∧ RowJ g sp B R X w' := by
 obtain ⟨i0, hi0⟩ : ∃ i0, m - a = i0 := ⟨_, rfl⟩
 obtain ⟨j0, hj0⟩ : ∃ j0, b - m = j0 := ⟨_, rfl⟩
 rw [hi0, hj0] at hR
 have ei : (m : Int) - (a : Int) = (i0 : Int) := by omega
 have ej : (b : Int) - (m : Int) = (j0 : Int) := by omega
 have H0 := hide (⟨by omega, by omega, by omega, by omega, hL, ⟨b - a + 1, by omega, hR⟩, hw⟩ : 1 ≤ i0 ∧ 1 ≤ j0 ∧ i0 ≤ m ∧ m + j0 ≤ L ∧ l.length = L ∧ (∃ f, i0 + j0 < f ∧ Dg.rotJ m f i0 j0 l = R) ∧ RowJ g sp B l X w)
 clear hL hR hw hi0 hj0
 go_enter func101, ntmps101
 go_wp2_with fail
 go_loopw [10, 11] (fun iv jv wr => ∃ (i j : Nat) (lk : List Dg.Cl), iv = .int .i64 i ∧ jv = .int .i64 j ∧ Hid (1 ≤ i ∧ 1 ≤ j ∧ i ≤ m ∧ m + j ≤ L ∧ lk.length = L ∧ (∃ f, i + j < f ∧ Dg.rotJ m f i j lk = R) ∧ RowJ g sp B lk X wr)) (fun iv jv _ => (intOf iv).toNat + (intOf jv).toNat)
 case atStart => exact ⟨i0, j0, l, by first | rfl | exact congrArg _ ei, by first | rfl | exact congrArg _ ej, H0⟩
 case round =>
  clear H0 ei ej
  obtain ⟨i, j, lk, rfl, rfl, HK⟩ := hrel
  obtain ⟨q1, q2, q3, q4, q5, ⟨f, q6, q7⟩, q8⟩ := HK.out
  obtain ⟨f1, rfl⟩ : ∃ f1, f = f1 + 1 := ⟨f - 1, by omega⟩
  rw [Dg.rotJ] at q7
  obtain ⟨d, hd⟩ : ∃ d, m - i = d := ⟨_, rfl⟩
  have ed : (m : Int) - (i : Int) = (d : Int) := by omega
  by_cases he : i = j
  ·subst he
   rw [if_pos rfl, hd] at q7
   have HC := hide (fun u (hu : RowJ g sp B lk X u) => swr_of g cap B sp X hBg hBX L hLz d m i (by omega) (by omega) (.func (.func 27) #[] #[]) lk q5 R q7 u hu)
   have HQ := hide q8
   clear HK q5 q7 q8 q6
   go_wp2_with fail
   try rw [ed]
   refine (HC.out _ HQ.out).mono ?_
   rintro e w1 ⟨rfl, hw1⟩
   clear HC HQ
   go_wp2
   go_end0
   exact ⟨rfl, hw1⟩
  ·have hne : ¬ ((i : Int) = (j : Int)) := by omega
   have hneb : ((i : Int) != (j : Int)) = true := by rw [bne, beq_eq_false_iff_ne.2 hne]; rfl
   rw [if_neg he, hd] at q7
   by_cases hlt : j < i
   ·rw [if_pos hlt] at q7
    have hlt' : (j : Int) < (i : Int) := by omega
    obtain ⟨lk1, hk1⟩ : ∃ lk1, Dg.swrJ d m j 0 lk = lk1 := ⟨_, rfl⟩
    rw [hk1] at q7
    have HC := hide (fun u (hu : RowJ g sp B lk X u) => swr_of g cap B sp X hBg hBX L hLz d m j (by omega) (by omega) (.func (.func 27) #[] #[]) lk q5 lk1 hk1 u hu)
    have HQ := hide q8
    have HR := hide (⟨by omega, q2, by omega, q4, by rw [← hk1, Dg.swrJ_len]; exact q5, ⟨f1, by omega, q7⟩⟩ : 1 ≤ i - j ∧ 1 ≤ j ∧ i - j ≤ m ∧ m + j ≤ L ∧ lk1.length = L ∧ (∃ f, i - j + j < f ∧ Dg.rotJ m f (i - j) j lk1 = R))
    have eij : (i : Int) - (j : Int) = ((i - j : Nat) : Int) := by omega
    clear HK q5 q7 q8 q6 hk1
    go_wp2_with fail
    try rw [ed]
    refine (HC.out _ HQ.out).mono ?_
    rintro e w1 ⟨rfl, hw1⟩
    have HN := hide (⟨HR.out.1, HR.out.2.1, HR.out.2.2.1, HR.out.2.2.2.1, HR.out.2.2.2.2.1, HR.out.2.2.2.2.2, hw1⟩ : 1 ≤ i - j ∧ 1 ≤ j ∧ i - j ≤ m ∧ m + j ≤ L ∧ lk1.length = L ∧ (∃ f, i - j + j < f ∧ Dg.rotJ m f (i - j) j lk1 = R) ∧ RowJ g sp B lk1 X w1)
    clear HC HQ HR hw1
    go_wp2_with fail
    go_roundw
    case rel => exact ⟨i - j, j, lk1, by first | rfl | exact congrArg _ eij, rfl, HN⟩
    case measure => simp [intOf]; omega
   ·rw [if_neg hlt] at q7
    have hlt' : ¬ ((j : Int) < (i : Int)) := by omega
    obtain ⟨h, hh⟩ : ∃ h, m + j - i = h := ⟨_, rfl⟩
    have eh : (m : Int) + (j : Int) - (i : Int) = (h : Int) := by omega
    obtain ⟨lk1, hk1⟩ : ∃ lk1, Dg.swrJ d h i 0 lk = lk1 := ⟨_, rfl⟩
    rw [hh, hk1] at q7
    have HC := hide (fun u (hu : RowJ g sp B lk X u) => swr_of g cap B sp X hBg hBX L hLz d h i (by omega) (by omega) (.func (.func 27) #[] #[]) lk q5 lk1 hk1 u hu)
    have HQ := hide q8
    have HR := hide (⟨q1, by omega, q3, by omega, by rw [← hk1, Dg.swrJ_len]; exact q5, ⟨f1, by omega, q7⟩⟩ : 1 ≤ i ∧ 1 ≤ j - i ∧ i ≤ m ∧ m + (j - i) ≤ L ∧ lk1.length = L ∧ (∃ f, i + (j - i) < f ∧ Dg.rotJ m f i (j - i) lk1 = R))
    have eij : (j : Int) - (i : Int) = ((j - i : Nat) : Int) := by omega
    clear HK q5 q7 q8 q6 hk1
    go_wp2_with fail
    try rw [ed]
    try rw [eh]
    refine (HC.out _ HQ.out).mono ?_
    rintro e w1 ⟨rfl, hw1⟩
    have HN := hide (⟨HR.out.1, HR.out.2.1, HR.out.2.2.1, HR.out.2.2.2.1, HR.out.2.2.2.2.1, HR.out.2.2.2.2.2, hw1⟩ : 1 ≤ i ∧ 1 ≤ j - i ∧ i ≤ m ∧ m + (j - i) ≤ L ∧ lk1.length = L ∧ (∃ f, i + (j - i) < f ∧ Dg.rotJ m f i (j - i) lk1 = R) ∧ RowJ g sp B lk1 X w1)
    clear HC HQ HR hw1
    go_wp2_with fail
    go_roundw
    case rel => exact ⟨i, j - i, lk1, rfl, by first | rfl | exact congrArg _ eij, HN⟩
    case measure => simp [intOf]; omega
attribute [-go_sem] Instr.storeAt in
theorem sym1_of (g cap B : Nat) (sp : List Value) (X : World) (hBg : B ≤ g) (hBX : B ≤ X.heap.size) (L : Nat) (hLz : L ≤ 1000000) (a m b : Nat) (ham : a < m) (hmb : m < b) (hb : b ≤ L) (h1 : m - a = 1) (l : List Dg.Cl) (hL : l.length = L) (R : List Dg.Cl) (hR : Dg.shuJ (Dg.lowJ ltK a m b l - 1 - a) a l = R) (w : World) (hw : RowJ g sp B l X w) :
  Calls Tryz.prog 81 #[.slice (some ⟨g, 0, none⟩) L cap, .int .i64 a, .int .i64 m, .int .i64 b, .func (.func 27) #[] #[]] w fun e w' => e = .returned (.tuple #[]) ∧ RowJ g sp B R X w' := by
 have hmx := hmxQ
 unfold Dg.lowJ at hR
 obtain ⟨pf, hpf⟩ : ∃ pf : Nat → Bool, (fun h => ltK (Dg.atJ l h) (Dg.atJ l a)) = pf := ⟨_, rfl⟩
 rw [hpf] at hR
 have HPF := hide (fun h => (congrFun hpf h).symm)
 clear hpf
 obtain ⟨ri, hri⟩ : ∃ ri, Dg.bisJ pf (b - m + 1) m b = ri := ⟨_, rfl⟩
 have hrb := Dg.bisJ_in pf (b - m + 1) m b (by omega)
 rw [hri] at hrb hR
 have HRB := hide hrb
 have H0 := hide (⟨Nat.le_refl _, by omega, Nat.le_refl _, ⟨b - m + 1, by omega, hri⟩, hw⟩ : m ≤ m ∧ m ≤ b ∧ b ≤ b ∧ (∃ f, b - m < f ∧ Dg.bisJ pf f m b = ri) ∧ RowJ g sp B l X w)
 clear hw hri hrb
 have e1 : (m : Int) - (a : Int) = 1 := by omega
 go_enter func81, ntmps81
 go_wp2_with fail
 go_loopw [10, 11] (fun iv jv wr => ∃ i j : Nat, iv = .int .i64 i ∧ jv = .int .i64 j ∧ Hid (m ≤ i ∧ i ≤ j ∧ j ≤ b ∧ (∃ f, j - i < f ∧ Dg.bisJ pf f i j = ri) ∧ RowJ g sp B l X wr)) (fun iv jv _ => (intOf jv).toNat - (intOf iv).toNat)
 case atStart => exact ⟨m, b, by first | rfl | go_num, by first | rfl | go_num, H0⟩
 case round =>
  clear H0
  obtain ⟨i, j, rfl, rfl, HK⟩ := hrel
  obtain ⟨q1, q2, q3, ⟨f, q4, q5⟩, q6⟩ := HK.out
  obtain ⟨f1, rfl⟩ : ∃ f1, f = f1 + 1 := ⟨f - 1, by omega⟩
  clear HK
  rw [Dg.bisJ] at q5
  by_cases hlt : i < j
  ·rw [if_pos hlt] at q5
   obtain ⟨h, hh⟩ : ∃ h, (i + j) / 2 = h := ⟨_, rfl⟩
   rw [hh] at q5
   have eh : ((i : Int) + (j : Int)) / 2 = (h : Int) := by omega
   have g1 : i ≤ h := by omega
   have g2 : h < j := by omega
   obtain ⟨x1, hxa⟩ : ∃ x, Dg.atJ l (h) = x := ⟨_, rfl⟩
   obtain ⟨x2, hxb⟩ : ∃ x, Dg.atJ l (a) = x := ⟨_, rfl⟩
   have hpx := HPF.out h
   rw [hxa, hxb] at hpx
   rw [hpx] at q5
   have HBJ := hide q5
   clear hpx
   have HQ6 := hide q6
   clear hh q5 q6
   go_upto_region 5 with fail
   try rw [eh]
   clear eh
   refine wp_region_noPanic ?_
   refine wp_region_L (fun Z => RowJ g sp B l X Z) 99 hmx ?_
   have hH0 : RowJ g sp B l X wr.drew := HQ6.out.next hBX (Below.refl _ _).drew
   have i0 : (0 : Int) ≤ (h : Int) := by omega
   have i1 : (h : Int) < (L : Int) := by omega
   have i2 : (0 : Int) ≤ (a : Int) ∧ (a : Int) < (L : Int) ∧ (0 : Int) ≤ (m : Int) ∧ (m : Int) < (L : Int) := by omega
   obtain ⟨i2, i3, i4, i5⟩ := i2
   clear HQ6
   generalize wr.drew = u0 at *
   refine tU 0 13 hH0 rfl ?_
   refine tU 1 13 hH0 rfl ?_
   refine tU 2 13 hH0 rfl ?_
   refine tU 3 13 hH0 rfl ?_
   refine tkV 4 13 (.agg (clC x1)) rfl (by exact yieldsIf_load_mid (by rfl) 55 (.tmp 43) rfl g (h * 20) rfl (clC x1).toList _ (fun Z hZ => hZ.at (h) (by omega) hxa) underlying55 rfl (by kernel_rfl)) hH0 ?_
   simp only [Act.put, pu]
   refine tU 5 13 hH0 rfl ?_
   refine tU 6 13 hH0 rfl ?_
   refine tU 7 13 hH0 rfl ?_
   refine tkV 8 13 (.agg (clC x2)) rfl (by exact yieldsIf_load_mid (by rfl) 55 (.tmp 47) rfl g (a * 20) rfl (clC x2).toList _ (fun Z hZ => hZ.at (a) (by omega) hxb) underlying55 rfl (by kernel_rfl)) hH0 ?_
   simp only [Act.put, pu]
   refine oY 9 fun K hK => ?_
   go_simp
   refine (joinK_of x1 x2 u0).mono ?_
   rintro e u9 ⟨rfl, hb9⟩
   have hH1 := hH0.next hBX hb9
   refine hK.out _ _ (Or.inr hH1) ?_
   clear hK K hb9
   try simp only [Act.put, pu]
   refine tU 10 13 hH1 rfl ?_
   refine dnY ?_
   have hbj := HBJ.out
   clear hH0 HBJ
   obtain ⟨bq, hbq⟩ : ∃ bq, decide (joinK x1 x2 < 0) = bq := ⟨_, rfl⟩
   rw [hbq]
   cases bq
   case' true => have hc := of_decide_eq_true hbq
   case' false => have hc := of_decide_eq_false hbq
   all_goals clear hbq
   ·have hb1 : Dg.bisJ pf f1 i h = ri := by
     rw [if_neg (by first | exact fun e => hc (of_decide_eq_true e) | (intro e; rw [show ltK x1 x2 = true from decide_eq_true hc] at e; cases e))] at hbj
     exact hbj
    have HN := hide (⟨q1, by omega, by omega, ⟨f1, by omega, hb1⟩, hH1⟩ : m ≤ i ∧ i ≤ h ∧ h ≤ b ∧ (∃ f, h - i < f ∧ Dg.bisJ pf f i h = ri) ∧ RowJ g sp B l X u9)
    clear hb1 hH1 hbj hxa hxb
    go_wp2_with fail
    go_roundw
    case rel => exact ⟨i, h, rfl, rfl, HN⟩
    case measure => first | (simp [intOf]; done) | (simp [intOf]; omega)
   ·have hb1 : Dg.bisJ pf f1 (h + 1) j = ri := by
     rw [if_pos (by first | exact decide_eq_true hc | (rw [show ltK x1 x2 = false from decide_eq_false hc]; rfl))] at hbj
     exact hbj
    have HN := hide (⟨by omega, by omega, q3, ⟨f1, by omega, hb1⟩, hH1⟩ : m ≤ h + 1 ∧ h + 1 ≤ j ∧ j ≤ b ∧ (∃ f, j - (h + 1) < f ∧ Dg.bisJ pf f (h + 1) j = ri) ∧ RowJ g sp B l X u9)
    clear hb1 hH1 hbj hxa hxb
    go_wp2_with fail
    go_roundw
    case rel => exact ⟨h + 1, j, by go_num, rfl, HN⟩
    case measure => first | (simp [intOf]; done) | (simp [intOf]; omega)
  ·rw [if_neg hlt] at q5
   subst q5
   have HR := hide (⟨Nat.le_refl _, hL, hR, q6⟩ : a ≤ a ∧ l.length = L ∧ Dg.shuJ (i - 1 - a) a l = R ∧ RowJ g sp B l X wr)
   have hi1 : 1 ≤ i := by omega
   clear hL hR q6 HRB
   go_wp2_with fail
   go_loopw [13] (fun kv wr => ∃ (k : Nat) (lk : List Dg.Cl), kv = .int .i64 k ∧ Hid (a ≤ k ∧ lk.length = L ∧ Dg.shuJ (i - 1 - k) k lk = R ∧ RowJ g sp B lk X wr)) (fun kv _ => i - (intOf kv).toNat)
   case atStart => exact ⟨a, l, rfl, HR⟩
   case round =>
    clear HR
    obtain ⟨k, lk, rfl, HK⟩ := hrel
    obtain ⟨p1, p2, p3, p4⟩ := HK.out
    clear HK
    by_cases hki : k < i - 1
    ·have hki' : (k : Int) < (i : Int) - 1 := by omega
     obtain ⟨y1, hy1⟩ : ∃ x, Dg.atJ lk k = x := ⟨_, rfl⟩
     obtain ⟨y2, hy2⟩ : ∃ x, Dg.atJ lk (k + 1) = x := ⟨_, rfl⟩
     have hsw : Dg.shuJ (i - 1 - (k + 1)) (k + 1) ((lk.set k y2).set (k + 1) y1) = R := by
      rw [← p3, show i - 1 - k = (i - 1 - (k + 1)) + 1 by omega, Dg.shuJ, Dg.swpJ, hy1, hy2]
     have HSW := hide hsw
     have HP4 := hide p4
     clear hsw p3 p4
     go_upto_region 11 with fail
     refine wp_region_noPanic ?_
     refine wp_region_L (fun Z => RowJ g sp B lk X Z) 15 hmx ?_
     have hH0 : RowJ g sp B lk X wr.drew := HP4.out.next hBX (Below.refl _ _).drew
     clear HP4
     generalize wr.drew = u0 at *
     have hst1 := hH0.run k (by omega) y2
     have hH1 := hH0.set hBg k y2
     have hst2 := hH1.run (k + 1) (by rw [List.length_set]; omega) y1
     have hH2 := hH1.set hBg (k + 1) y1
     have i0 : (0 : Int) ≤ (k : Int) := by omega
     have i1 : (k : Int) + 1 < (L : Int) := by omega
     have i2 : (0 : Int) ≤ (k : Int) + 1 := by omega
     have i3 : (k : Int) < (L : Int) := by omega
     have e3 : IntKind.i64.wrap ((k : Int) + 1) = (k : Int) + 1 := IntWalk.i64_in _ (by omega)
     refine tW 0 hH0 rfl ?_
     refine tW 1 hH0 rfl ?_
     refine tW 2 hH0 rfl ?_
     refine tW 3 hH0 rfl ?_
     refine tW 4 hH0 rfl ?_
     refine tW 5 hH0 rfl ?_
     refine tW 6 hH0 rfl ?_
     refine tW 7 hH0 rfl ?_
     refine tW 8 hH0 rfl ?_
     refine tkV 9 20 (.agg (clC y2)) rfl (by exact yieldsIf_load_mid (by rfl) 55 (.tmp 69) rfl g ((k + 1) * 20) rfl (clC y2).toList _ (fun Z hZ => hZ.at ((k + 1)) (by omega) hy2) underlying55 rfl (by kernel_rfl)) hH0 ?_
     simp only [Act.put, pu]
     refine tW 10 hH0 rfl ?_
     refine tW 11 hH0 rfl ?_
     refine tW 12 hH0 rfl ?_
     refine tkV 13 20 (.agg (clC y1)) rfl (by exact yieldsIf_load_mid (by rfl) 55 (.tmp 73) rfl g (k * 20) rfl (clC y1).toList _ (fun Z hZ => hZ.at (k) (by omega) hy1) underlying55 rfl (by kernel_rfl)) hH0 ?_
     simp only [Act.put, pu]
     refine tW 14 hH0 rfl ?_
     refine oY 15 fun K hK => ?_
     go_simp
     refine hK.out _ _ (Or.inl rfl) ?_
     clear hK K hst1
     try simp only [Act.put, pu]
     generalize u0.setRow g (clL.flat (lk.set k y2) ++ sp).toArray = u1 at *
     refine oY 16 fun K hK => ?_
     go_simp
     refine hK.out _ _ (Or.inl rfl) ?_
     clear hK K
     try simp only [Act.put, pu]
     refine oY 17 fun K hK => ?_
     go_simp
     refine hK.out _ _ (Or.inl rfl) ?_
     clear hK K hst2
     try simp only [Act.put, pu]
     refine dnY ?_
     have HK1 := hide (⟨by omega, by rw [List.length_set, List.length_set]; exact p2, HSW.out, hH2⟩ : a ≤ k + 1 ∧ ((lk.set k y2).set (k + 1) y1).length = L ∧ Dg.shuJ (i - 1 - (k + 1)) (k + 1) ((lk.set k y2).set (k + 1) y1) = R ∧ RowJ g sp B ((lk.set k y2).set (k + 1) y1) X _)
     clear hH0 hH1 hH2 HSW p2 hy1 hy2
     go_wp2_with fail
     go_roundw
     case rel => exact ⟨k + 1, _, by go_num, HK1⟩
     case measure => first | (simp [intOf]; done) | (simp [intOf]; omega)
    ·have hki' : ¬ ((k : Int) < (i : Int) - 1) := by omega
     rw [show i - 1 - k = 0 by omega, Dg.shuJ] at p3
     subst p3
     go_wp2
     first | go_end0 | refine bodyPost_ret (results_none rfl _ _ _) rfl ?_
     exact ⟨rfl, p4⟩
attribute [-go_sem] Instr.storeAt in
theorem sym2_of (g cap B : Nat) (sp : List Value) (X : World) (hBg : B ≤ g) (hBX : B ≤ X.heap.size) (L : Nat) (hLz : L ≤ 1000000) (a m b : Nat) (ham : a < m) (hmb : m < b) (hb : b ≤ L) (h1 : m - a ≠ 1) (h2 : b - m = 1) (l : List Dg.Cl) (hL : l.length = L) (R : List Dg.Cl) (hR : Dg.shdJ (m - Dg.topJ ltK a m l) m l = R) (w : World) (hw : RowJ g sp B l X w) :
  Calls Tryz.prog 81 #[.slice (some ⟨g, 0, none⟩) L cap, .int .i64 a, .int .i64 m, .int .i64 b, .func (.func 27) #[] #[]] w fun e w' => e = .returned (.tuple #[]) ∧ RowJ g sp B R X w' := by
 have hmx := hmxQ
 unfold Dg.topJ at hR
 obtain ⟨pf, hpf⟩ : ∃ pf : Nat → Bool, (fun h => !ltK (Dg.atJ l m) (Dg.atJ l h)) = pf := ⟨_, rfl⟩
 rw [hpf] at hR
 have HPF := hide (fun h => (congrFun hpf h).symm)
 clear hpf
 obtain ⟨ri, hri⟩ : ∃ ri, Dg.bisJ pf (m - a + 1) a m = ri := ⟨_, rfl⟩
 have hrb := Dg.bisJ_in pf (m - a + 1) a m (by omega)
 rw [hri] at hrb hR
 have HRB := hide hrb
 have H0 := hide (⟨Nat.le_refl _, by omega, Nat.le_refl _, ⟨m - a + 1, by omega, hri⟩, hw⟩ : a ≤ a ∧ a ≤ m ∧ m ≤ m ∧ (∃ f, m - a < f ∧ Dg.bisJ pf f a m = ri) ∧ RowJ g sp B l X w)
 clear hw hri hrb
 have e1 : ¬ ((m : Int) - (a : Int) = 1) := by omega
 have e1b : ((m : Int) - (a : Int) == 1) = false := beq_eq_false_iff_ne.2 e1
 have e2 : (b : Int) - (m : Int) = 1 := by omega
 go_enter func81, ntmps81
 go_wp2_with fail
 go_loopw [14, 15] (fun iv jv wr => ∃ i j : Nat, iv = .int .i64 i ∧ jv = .int .i64 j ∧ Hid (a ≤ i ∧ i ≤ j ∧ j ≤ m ∧ (∃ f, j - i < f ∧ Dg.bisJ pf f i j = ri) ∧ RowJ g sp B l X wr)) (fun iv jv _ => (intOf jv).toNat - (intOf iv).toNat)
 case atStart => exact ⟨a, m, by first | rfl | go_num, by first | rfl | go_num, H0⟩
 case round =>
  clear H0
  obtain ⟨i, j, rfl, rfl, HK⟩ := hrel
  obtain ⟨q1, q2, q3, ⟨f, q4, q5⟩, q6⟩ := HK.out
  obtain ⟨f1, rfl⟩ : ∃ f1, f = f1 + 1 := ⟨f - 1, by omega⟩
  clear HK
  rw [Dg.bisJ] at q5
  by_cases hlt : i < j
  ·rw [if_pos hlt] at q5
   obtain ⟨h, hh⟩ : ∃ h, (i + j) / 2 = h := ⟨_, rfl⟩
   rw [hh] at q5
   have eh : ((i : Int) + (j : Int)) / 2 = (h : Int) := by omega
   have g1 : i ≤ h := by omega
   have g2 : h < j := by omega
   obtain ⟨x1, hxa⟩ : ∃ x, Dg.atJ l (m) = x := ⟨_, rfl⟩
   obtain ⟨x2, hxb⟩ : ∃ x, Dg.atJ l (h) = x := ⟨_, rfl⟩
   have hpx := HPF.out h
   rw [hxa, hxb] at hpx
   rw [hpx] at q5
   have HBJ := hide q5
   clear hpx
   have HQ6 := hide q6
   clear hh q5 q6
   go_upto_region 17 with fail
   try rw [eh]
   clear eh
   refine wp_region_noPanic ?_
   refine wp_region_L (fun Z => RowJ g sp B l X Z) 99 hmx ?_
   have hH0 : RowJ g sp B l X wr.drew := HQ6.out.next hBX (Below.refl _ _).drew
   have i0 : (0 : Int) ≤ (h : Int) := by omega
   have i1 : (h : Int) < (L : Int) := by omega
   have i2 : (0 : Int) ≤ (a : Int) ∧ (a : Int) < (L : Int) ∧ (0 : Int) ≤ (m : Int) ∧ (m : Int) < (L : Int) := by omega
   obtain ⟨i2, i3, i4, i5⟩ := i2
   clear HQ6
   generalize wr.drew = u0 at *
   refine tU 0 14 hH0 rfl ?_
   refine tU 1 14 hH0 rfl ?_
   refine tU 2 14 hH0 rfl ?_
   refine tU 3 14 hH0 rfl ?_
   refine tkV 4 14 (.agg (clC x1)) rfl (by exact yieldsIf_load_mid (by rfl) 55 (.tmp 95) rfl g (m * 20) rfl (clC x1).toList _ (fun Z hZ => hZ.at (m) (by omega) hxa) underlying55 rfl (by kernel_rfl)) hH0 ?_
   simp only [Act.put, pu]
   refine tU 5 14 hH0 rfl ?_
   refine tU 6 14 hH0 rfl ?_
   refine tU 7 14 hH0 rfl ?_
   refine tkV 8 14 (.agg (clC x2)) rfl (by exact yieldsIf_load_mid (by rfl) 55 (.tmp 99) rfl g (h * 20) rfl (clC x2).toList _ (fun Z hZ => hZ.at (h) (by omega) hxb) underlying55 rfl (by kernel_rfl)) hH0 ?_
   simp only [Act.put, pu]
   refine oY 9 fun K hK => ?_
   go_simp
   refine (joinK_of x1 x2 u0).mono ?_
   rintro e u9 ⟨rfl, hb9⟩
   have hH1 := hH0.next hBX hb9
   refine hK.out _ _ (Or.inr hH1) ?_
   clear hK K hb9
   try simp only [Act.put, pu]
   refine tU 10 14 hH1 rfl ?_
   refine tU 11 14 hH1 rfl ?_
   refine dnY ?_
   have hbj := HBJ.out
   clear hH0 HBJ
   obtain ⟨bq, hbq⟩ : ∃ bq, decide (joinK x1 x2 < 0) = bq := ⟨_, rfl⟩
   rw [hbq]
   cases bq
   case' true => have hc := of_decide_eq_true hbq
   case' false => have hc := of_decide_eq_false hbq
   all_goals clear hbq
   ·have hb1 : Dg.bisJ pf f1 (h + 1) j = ri := by
     rw [if_pos (by first | exact decide_eq_true hc | (rw [show ltK x1 x2 = false from decide_eq_false hc]; rfl))] at hbj
     exact hbj
    have HN := hide (⟨by omega, by omega, q3, ⟨f1, by omega, hb1⟩, hH1⟩ : a ≤ h + 1 ∧ h + 1 ≤ j ∧ j ≤ m ∧ (∃ f, j - (h + 1) < f ∧ Dg.bisJ pf f (h + 1) j = ri) ∧ RowJ g sp B l X u9)
    clear hb1 hH1 hbj hxa hxb
    go_wp2_with fail
    go_roundw
    case rel => exact ⟨h + 1, j, by go_num, rfl, HN⟩
    case measure => first | (simp [intOf]; done) | (simp [intOf]; omega)
   ·have hb1 : Dg.bisJ pf f1 i h = ri := by
     rw [if_neg (by first | exact fun e => hc (of_decide_eq_true e) | (intro e; rw [show ltK x1 x2 = true from decide_eq_true hc] at e; cases e))] at hbj
     exact hbj
    have HN := hide (⟨q1, by omega, by omega, ⟨f1, by omega, hb1⟩, hH1⟩ : a ≤ i ∧ i ≤ h ∧ h ≤ m ∧ (∃ f, h - i < f ∧ Dg.bisJ pf f i h = ri) ∧ RowJ g sp B l X u9)
    clear hb1 hH1 hbj hxa hxb
    go_wp2_with fail
    go_roundw
    case rel => exact ⟨i, h, rfl, rfl, HN⟩
    case measure => first | (simp [intOf]; done) | (simp [intOf]; omega)
  ·rw [if_neg hlt] at q5
   subst q5
   have HR := hide (⟨by omega, Nat.le_refl _, hL, hR, q6⟩ : i ≤ m ∧ m ≤ m ∧ l.length = L ∧ Dg.shdJ (m - i) m l = R ∧ RowJ g sp B l X wr)
   clear hL hR q6 HRB
   go_wp2_with fail
   go_loopw [17] (fun kv wr => ∃ (k : Nat) (lk : List Dg.Cl), kv = .int .i64 k ∧ Hid (i ≤ k ∧ k ≤ m ∧ lk.length = L ∧ Dg.shdJ (k - i) k lk = R ∧ RowJ g sp B lk X wr)) (fun kv _ => (intOf kv).toNat)
   case atStart => exact ⟨m, l, rfl, HR⟩
   case round =>
    clear HR
    obtain ⟨kk, lk, rfl, HK⟩ := hrel
    obtain ⟨p1, p0, p2, p3, p4⟩ := HK.out
    clear HK
    by_cases hki : i < kk
    ·obtain ⟨k, rfl⟩ : ∃ k, kk = k + 1 := ⟨kk - 1, by omega⟩
     have hcast : ((k + 1 : Nat) : Int) = (k : Int) + 1 := by omega
     rw [hcast]
     obtain ⟨y1, hy1⟩ : ∃ x, Dg.atJ lk (k + 1) = x := ⟨_, rfl⟩
     obtain ⟨y2, hy2⟩ : ∃ x, Dg.atJ lk k = x := ⟨_, rfl⟩
     have hsw : Dg.shdJ (k - i) k ((lk.set (k + 1) y2).set k y1) = R := by
      rw [← p3, show k + 1 - i = (k - i) + 1 by omega, Dg.shdJ, Dg.swpJ, Nat.add_sub_cancel, hy1, hy2]
     have HSW := hide hsw
     have HP4 := hide p4
     clear hsw p3 p4
     have i2 : (i : Int) < (k : Int) + 1 := by omega
     go_upto_region 23 with fail
     refine wp_region_noPanic ?_
     refine wp_region_L (fun Z => RowJ g sp B lk X Z) 15 hmx ?_
     have hH0 : RowJ g sp B lk X wr.drew := HP4.out.next hBX (Below.refl _ _).drew
     clear HP4
     generalize wr.drew = u0 at *
     have hst1 := hH0.run (k + 1) (by omega) y2
     have hH1 := hH0.set hBg (k + 1) y2
     have hst2 := hH1.run k (by rw [List.length_set]; omega) y1
     have hH2 := hH1.set hBg k y1
     have i0 : (0 : Int) ≤ (k : Int) := by omega
     have i1 : (k : Int) + 1 < (L : Int) := by omega
     have i3 : (0 : Int) ≤ (k : Int) + 1 := by omega
     have i4 : (k : Int) < (L : Int) := by omega
     have e3 : IntKind.i64.wrap ((k : Int) + 1 - 1) = (k : Int) := by rw [IntWalk.i64_in _ (by omega)]; omega
     have e4 : IntKind.i64.wrap (k : Int) = (k : Int) := IntWalk.i64_in _ (by omega)
     refine tW 0 hH0 rfl ?_
     refine tW 1 hH0 rfl ?_
     refine tW 2 hH0 rfl ?_
     refine tW 3 hH0 rfl ?_
     refine tW 4 hH0 rfl ?_
     refine tW 5 hH0 rfl ?_
     refine tW 6 hH0 rfl ?_
     refine tW 7 hH0 rfl ?_
     refine tW 8 hH0 rfl ?_
     refine tkV 9 20 (.agg (clC y2)) rfl (by exact yieldsIf_load_mid (by rfl) 55 (.tmp 121) rfl g (k * 20) rfl (clC y2).toList _ (fun Z hZ => hZ.at (k) (by omega) hy2) underlying55 rfl (by kernel_rfl)) hH0 ?_
     simp only [Act.put, pu]
     refine tW 10 hH0 rfl ?_
     refine tW 11 hH0 rfl ?_
     refine tW 12 hH0 rfl ?_
     refine tkV 13 20 (.agg (clC y1)) rfl (by exact yieldsIf_load_mid (by rfl) 55 (.tmp 125) rfl g ((k + 1) * 20) rfl (clC y1).toList _ (fun Z hZ => hZ.at ((k + 1)) (by omega) hy1) underlying55 rfl (by kernel_rfl)) hH0 ?_
     simp only [Act.put, pu]
     refine tW 14 hH0 rfl ?_
     refine oY 15 fun K hK => ?_
     go_simp
     refine hK.out _ _ (Or.inl rfl) ?_
     clear hK K hst1
     try simp only [Act.put, pu]
     generalize u0.setRow g (clL.flat (lk.set (k + 1) y2) ++ sp).toArray = u1 at *
     refine oY 16 fun K hK => ?_
     go_simp
     refine hK.out _ _ (Or.inl rfl) ?_
     clear hK K
     try simp only [Act.put, pu]
     refine oY 17 fun K hK => ?_
     go_simp
     refine hK.out _ _ (Or.inl rfl) ?_
     clear hK K hst2
     try simp only [Act.put, pu]
     refine dnY ?_
     have HK1 := hide (⟨by omega, by omega, by rw [List.length_set, List.length_set]; exact p2, HSW.out, hH2⟩ : i ≤ k ∧ k ≤ m ∧ ((lk.set (k + 1) y2).set k y1).length = L ∧ Dg.shdJ (k - i) k ((lk.set (k + 1) y2).set k y1) = R ∧ RowJ g sp B ((lk.set (k + 1) y2).set k y1) X _)
     clear hH0 hH1 hH2 HSW p2 hy1 hy2
     go_wp2_with fail
     go_roundw
     case rel => exact ⟨k, _, by go_num, HK1⟩
     case measure => first | (simp [intOf]; done) | (simp [intOf]; omega)
    ·have hki' : ¬ ((i : Int) < (kk : Int)) := by omega
     rw [show kk - i = 0 by omega, Dg.shdJ] at p3
     subst p3
     go_wp2
     first | go_end0 | refine bodyPost_ret (results_none rfl _ _ _) rfl ?_
     exact ⟨rfl, p4⟩
attribute [-go_sem] Instr.storeAt in
theorem sym3_of (g cap B : Nat) (sp : List Value) (X : World) (hBg : B ≤ g) (hBX : B ≤ X.heap.size) (L : Nat) (hLz : L ≤ 1000000) (a m b : Nat) (ham : a < m) (hmb : m < b) (hb : b ≤ L) (h1 : m - a ≠ 1) (h2 : b - m ≠ 1) (f0 : Nat) (IH : ∀ (a m b : Nat) (l R : List Dg.Cl) (w : World), a < m → m < b → b ≤ L → b - a ≤ f0 → l.length = L → Dg.symJ ltK f0 a m b l = R → RowJ g sp B l X w → Calls Tryz.prog 81 #[.slice (some ⟨g, 0, none⟩) L cap, .int .i64 a, .int .i64 m, .int .i64 b, .func (.func 27) #[] #[]] w fun e w' => e = .returned (.tuple #[]) ∧ RowJ g sp B R X w') (hf : b - a ≤ f0 + 1) (l : List Dg.Cl) (hL : l.length = L) (R : List Dg.Cl) (hR : Dg.symJ ltK (f0 + 1) a m b l = R) (w : World) (hw : RowJ g sp B l X w) :
  Calls Tryz.prog 81 #[.slice (some ⟨g, 0, none⟩) L cap, .int .i64 a, .int .i64 m, .int .i64 b, .func (.func 27) #[] #[]] w fun e w' => e = .returned (.tuple #[]) ∧ RowJ g sp B R X w' := by
 have hmx := hmxQ
 rw [Dg.symJ, if_neg h1, if_neg h2] at hR
 dsimp only at hR
 obtain ⟨mid, hmid⟩ : ∃ mid, (a + b) / 2 = mid := ⟨_, rfl⟩
 have emid : ((a : Int) + (b : Int)) / 2 = (mid : Int) := by omega
 obtain ⟨n, hn⟩ : ∃ n, mid + m = n := ⟨_, rfl⟩
 have en : (mid : Int) + (m : Int) = (n : Int) := by omega
 obtain ⟨st0, hst0⟩ : ∃ st0, Dg.st0J a m b = st0 := ⟨_, rfl⟩
 obtain ⟨r0, hr0⟩ : ∃ r0, Dg.r0J a m b = r0 := ⟨_, rfl⟩
 have hin : a ≤ st0 ∧ st0 ≤ r0 ∧ r0 ≤ mid ∧ r0 ≤ m ∧ n - st0 ≤ b ∧ (mid < m → st0 = n - b ∧ r0 = mid) ∧ (¬ mid < m → st0 = a ∧ r0 = m) := by
  rw [← hst0, ← hr0]
  unfold Dg.st0J Dg.r0J
  rw [hmid, hn]
  split
  ·exact ⟨by omega, by omega, by omega, by omega, by omega, fun _ => ⟨rfl, rfl⟩, fun h => by omega⟩
  ·exact ⟨by omega, by omega, by omega, by omega, by omega, fun h => by omega, fun _ => ⟨rfl, rfl⟩⟩
 unfold Dg.cutJ at hR
 rw [hst0, hr0, hmid, hn] at hR
 have HIN := hide hin
 obtain ⟨in1, in2, in3, in4, in5, in6, in7⟩ := hin
 clear hst0 hr0
 obtain ⟨pf, hpf⟩ : ∃ pf : Nat → Bool, (fun h => !ltK (Dg.atJ l (n - 1 - h)) (Dg.atJ l h)) = pf := ⟨_, rfl⟩
 rw [hpf] at hR
 have HPF := hide (fun h => (congrFun hpf h).symm)
 clear hpf
 obtain ⟨ri, hri⟩ : ∃ ri, Dg.bisJ pf (r0 - st0 + 1) st0 r0 = ri := ⟨_, rfl⟩
 have hrb := Dg.bisJ_in pf (r0 - st0 + 1) st0 r0 (by omega)
 rw [hri] at hrb hR
 have HRB := hide hrb
 have H0 := hide (⟨Nat.le_refl _, by omega, Nat.le_refl _, ⟨r0 - st0 + 1, by omega, hri⟩, hw⟩ : st0 ≤ st0 ∧ st0 ≤ r0 ∧ r0 ≤ r0 ∧ (∃ f, r0 - st0 < f ∧ Dg.bisJ pf f st0 r0 = ri) ∧ RowJ g sp B l X w)
 clear hw hri hrb
 have e1 : ¬ ((m : Int) - (a : Int) = 1) := by omega
 have e1b : ((m : Int) - (a : Int) == 1) = false := beq_eq_false_iff_ne.2 e1
 have e2 : ¬ ((b : Int) - (m : Int) = 1) := by omega
 have e2b : ((b : Int) - (m : Int) == 1) = false := beq_eq_false_iff_ne.2 e2
 have ep : (n : Int) - 1 = ((n - 1 : Nat) : Int) := by omega
 clear hmid hn
 go_enter func81, ntmps81
 go_upto_if 140 with fail
 go_cut [20, 21] (fun v20 v21 wx => v20 = .int .i64 st0 ∧ v21 = .int .i64 r0 ∧ wx = w)
 case first =>
  rcases Nat.lt_or_ge mid m with k1 | k1
  ·have k3 := hide (in6 k1)
   have k2 : (mid : Int) < (m : Int) := by omega
   go_wp2_with fail
   go_meet
   obtain ⟨k4, k5⟩ := k3.out
   exact ⟨congrArg (Value.int .i64) (by omega), congrArg (Value.int .i64) (by omega), rfl⟩
  ·have k3 := hide (in7 (by omega))
   have k2 : ¬ ((mid : Int) < (m : Int)) := by omega
   go_wp2_with fail
   go_meet
   obtain ⟨k4, k5⟩ := k3.out
   exact ⟨congrArg (Value.int .i64) (by omega), congrArg (Value.int .i64) (by omega), rfl⟩
 case rest =>
 obtain ⟨rfl, rfl, rfl⟩ := hcut
 clear in6 in7 HIN
 go_wp2_with fail
 go_loopw [20, 21] (fun iv jv wr => ∃ i j : Nat, iv = .int .i64 i ∧ jv = .int .i64 j ∧ Hid (st0 ≤ i ∧ i ≤ j ∧ j ≤ r0 ∧ (∃ f, j - i < f ∧ Dg.bisJ pf f i j = ri) ∧ RowJ g sp B l X wr)) (fun iv jv _ => (intOf jv).toNat - (intOf iv).toNat)
 case atStart => exact ⟨st0, r0, by first | rfl | go_num, by first | rfl | go_num, H0⟩
 case round =>
  clear H0
  obtain ⟨i, j, rfl, rfl, HK⟩ := hrel
  obtain ⟨q1, q2, q3, ⟨f, q4, q5⟩, q6⟩ := HK.out
  obtain ⟨f1, rfl⟩ : ∃ f1, f = f1 + 1 := ⟨f - 1, by omega⟩
  clear HK
  rw [Dg.bisJ] at q5
  by_cases hlt : i < j
  ·rw [if_pos hlt] at q5
   obtain ⟨h, hh⟩ : ∃ h, (i + j) / 2 = h := ⟨_, rfl⟩
   rw [hh] at q5
   have eh : ((i : Int) + (j : Int)) / 2 = (h : Int) := by omega
   have g1 : i ≤ h := by omega
   have g2 : h < j := by omega
   obtain ⟨x1, hxa⟩ : ∃ x, Dg.atJ l (n - 1 - h) = x := ⟨_, rfl⟩
   obtain ⟨x2, hxb⟩ : ∃ x, Dg.atJ l (h) = x := ⟨_, rfl⟩
   have hpx := HPF.out h
   rw [hxa, hxb] at hpx
   rw [hpx] at q5
   have HBJ := hide q5
   clear hpx
   have HQ6 := hide q6
   clear hh q5 q6
   go_upto_region 35 with fail
   try rw [eh]
   clear eh
   refine wp_region_noPanic ?_
   refine wp_region_L (fun Z => RowJ g sp B l X Z) 99 hmx ?_
   have hH0 : RowJ g sp B l X wr.drew := HQ6.out.next hBX (Below.refl _ _).drew
   have i0 : (0 : Int) ≤ (h : Int) := by omega
   have i1 : (h : Int) < (L : Int) := by omega
   have i2 : (0 : Int) ≤ (a : Int) ∧ (a : Int) < (L : Int) ∧ (0 : Int) ≤ (m : Int) ∧ (m : Int) < (L : Int) := by omega
   obtain ⟨i2, i3, i4, i5⟩ := i2
   have ew : IntKind.i64.wrap (((n - 1 : Nat) : Int) - (h : Int)) = ((n - 1 - h : Nat) : Int) := by rw [IntWalk.i64_in _ (by omega)]; omega
   have i6 : (0 : Int) ≤ ((n - 1 - h : Nat) : Int) := by omega
   have i7 : ((n - 1 - h : Nat) : Int) < (L : Int) := by omega
   clear HQ6
   generalize wr.drew = u0 at *
   refine tU 0 16 hH0 rfl ?_
   refine tU 1 16 hH0 rfl ?_
   refine tU 2 16 hH0 rfl ?_
   refine tU 3 16 hH0 rfl ?_
   refine tU 4 16 hH0 rfl ?_
   refine tU 5 16 hH0 rfl ?_
   refine tkV 6 16 (.agg (clC x1)) rfl (by exact yieldsIf_load_mid (by rfl) 55 (.tmp 163) rfl g ((n - 1 - h) * 20) rfl (clC x1).toList _ (fun Z hZ => hZ.at ((n - 1 - h)) (by omega) hxa) underlying55 rfl (by kernel_rfl)) hH0 ?_
   simp only [Act.put, pu]
   refine tU 7 16 hH0 rfl ?_
   refine tU 8 16 hH0 rfl ?_
   refine tU 9 16 hH0 rfl ?_
   refine tkV 10 16 (.agg (clC x2)) rfl (by exact yieldsIf_load_mid (by rfl) 55 (.tmp 167) rfl g (h * 20) rfl (clC x2).toList _ (fun Z hZ => hZ.at (h) (by omega) hxb) underlying55 rfl (by kernel_rfl)) hH0 ?_
   simp only [Act.put, pu]
   refine oY 11 fun K hK => ?_
   go_simp
   refine (joinK_of x1 x2 u0).mono ?_
   rintro e u9 ⟨rfl, hb9⟩
   have hH1 := hH0.next hBX hb9
   refine hK.out _ _ (Or.inr hH1) ?_
   clear hK K hb9
   try simp only [Act.put, pu]
   refine tU 12 16 hH1 rfl ?_
   refine tU 13 16 hH1 rfl ?_
   refine dnY ?_
   have hbj := HBJ.out
   clear hH0 HBJ
   obtain ⟨bq, hbq⟩ : ∃ bq, decide (joinK x1 x2 < 0) = bq := ⟨_, rfl⟩
   rw [hbq]
   cases bq
   case' true => have hc := of_decide_eq_true hbq
   case' false => have hc := of_decide_eq_false hbq
   all_goals clear hbq
   ·have hb1 : Dg.bisJ pf f1 (h + 1) j = ri := by
     rw [if_pos (by first | exact decide_eq_true hc | (rw [show ltK x1 x2 = false from decide_eq_false hc]; rfl))] at hbj
     exact hbj
    have HN := hide (⟨by omega, by omega, q3, ⟨f1, by omega, hb1⟩, hH1⟩ : st0 ≤ h + 1 ∧ h + 1 ≤ j ∧ j ≤ r0 ∧ (∃ f, j - (h + 1) < f ∧ Dg.bisJ pf f (h + 1) j = ri) ∧ RowJ g sp B l X u9)
    clear hb1 hH1 hbj hxa hxb
    go_wp2_with fail
    go_roundw
    case rel => exact ⟨h + 1, j, by go_num, rfl, HN⟩
    case measure => first | (simp [intOf]; done) | (simp [intOf]; omega)
   ·have hb1 : Dg.bisJ pf f1 i h = ri := by
     rw [if_neg (by first | exact fun e => hc (of_decide_eq_true e) | (intro e; rw [show ltK x1 x2 = true from decide_eq_true hc] at e; cases e))] at hbj
     exact hbj
    have HN := hide (⟨q1, by omega, by omega, ⟨f1, by omega, hb1⟩, hH1⟩ : st0 ≤ i ∧ i ≤ h ∧ h ≤ r0 ∧ (∃ f, h - i < f ∧ Dg.bisJ pf f i h = ri) ∧ RowJ g sp B l X u9)
    clear hb1 hH1 hbj hxa hxb
    go_wp2_with fail
    go_roundw
    case rel => exact ⟨i, h, rfl, rfl, HN⟩
    case measure => first | (simp [intOf]; done) | (simp [intOf]; omega)
  ·rw [if_neg hlt] at q5
   subst q5
   obtain ⟨en, hen⟩ : ∃ en, n - i = en := ⟨_, rfl⟩
   have een : (n : Int) - (i : Int) = (en : Int) := by omega
   rw [hen] at hR
   obtain ⟨l1, hl1⟩ : ∃ l1, Dg.turnJ m i en l = l1 := ⟨_, rfl⟩
   rw [hl1] at hR
   obtain ⟨l2, hl2⟩ : ∃ l2, (if a < i ∧ i < mid then Dg.symJ ltK f0 a i mid l1 else l1) = l2 := ⟨_, rfl⟩
   rw [hl2] at hR
   have hL1 : l1.length = L := by rw [← hl1, Dg.turnJ_len]; exact hL
   have hL2 : l2.length = L := by
    rw [← hl2]
    split
    ·rw [Dg.symJ_len]; exact hL1
    ·exact hL1
   have HC1 : Hid (i < m ∧ m < en → ∀ u, RowJ g sp B l X u → Calls Tryz.prog 101 #[.slice (some ⟨g, 0, none⟩) L cap, .int .i64 i, .int .i64 m, .int .i64 en, .func (.func 27) #[] #[]] u fun e w' => e = .returned (.tuple #[]) ∧ RowJ g sp B l1 X w') := hide fun h u hu => rot_of g cap B sp X hBg hBX L hLz i m en h.1 h.2 (by omega) l hL l1 (by rw [← hl1]; exact (if_pos h).symm) u hu
   have HN1 := hide (fun (h : ¬ (i < m ∧ m < en)) => (show l1 = l by rw [← hl1]; exact if_neg h))
   have HC2 : Hid (a < i ∧ i < mid → ∀ u, RowJ g sp B l1 X u → Calls Tryz.prog 81 #[.slice (some ⟨g, 0, none⟩) L cap, .int .i64 a, .int .i64 i, .int .i64 mid, .func (.func 27) #[] #[]] u fun e w' => e = .returned (.tuple #[]) ∧ RowJ g sp B l2 X w') := hide fun h u hu => IH a i mid l1 l2 u h.1 h.2 (by omega) (by omega) hL1 (by rw [← hl2]; exact (if_pos h).symm) hu
   have HN2 := hide (fun (h : ¬ (a < i ∧ i < mid)) => (show l2 = l1 by rw [← hl2]; exact if_neg h))
   have HC3 : Hid (mid < en ∧ en < b → ∀ u, RowJ g sp B l2 X u → Calls Tryz.prog 81 #[.slice (some ⟨g, 0, none⟩) L cap, .int .i64 mid, .int .i64 en, .int .i64 b, .func (.func 27) #[] #[]] u fun e w' => e = .returned (.tuple #[]) ∧ RowJ g sp B R X w') := hide fun h u hu => IH mid en b l2 R u h.1 h.2 hb (by omega) hL2 (by rw [← hR]; exact (if_pos h).symm) hu
   have HN3 := hide (fun (h : ¬ (mid < en ∧ en < b)) => (show R = l2 by rw [← hR]; exact if_neg h))
   have HQ := hide q6
   clear hl1 hl2 hL1 hL2 hR q6 hen HRB IH HPF
   go_upto_region 39 with fail
   go_cut [185] (fun v wx => v = .bool (decide (i < m ∧ m < en)) ∧ wx = wr)
   case first =>
    rcases Nat.lt_or_ge i m with k1 | k1
    all_goals rcases Nat.lt_or_ge m en with k2 | k2
    all_goals first | have k3 : (i : Int) < (m : Int) := by omega | have k3 : ¬ ((i : Int) < (m : Int)) := by omega
    all_goals first | have k4 : (m : Int) < (en : Int) := by omega | have k4 : ¬ ((m : Int) < (en : Int)) := by omega
    all_goals go_wp2_with fail
    all_goals go_meet
    all_goals first | rw [decide_eq_true (show i < m ∧ m < en by omega)] | rw [decide_eq_false (show ¬ (i < m ∧ m < en) by omega)]
    all_goals exact ⟨rfl, rfl⟩
   case rest =>
   obtain ⟨rfl, rfl⟩ := hcut
   obtain ⟨bq, hbq⟩ : ∃ bq, decide (i < m ∧ m < en) = bq := ⟨_, rfl⟩
   rw [hbq]
   have HBQ := hide hbq
   clear hbq
   go_upto_if 185 with fail
   go_cut [] (fun wx => RowJ g sp B l1 X wx)
   case first =>
    cases bq
    ·go_wp2_with fail
     go_meet
     rw [HN1.out (of_decide_eq_false HBQ.out)]
     exact HQ.out
    ·go_wp2_with fail
     refine (HC1.out (of_decide_eq_true HBQ.out) _ HQ.out).mono ?_
     rintro e w9 ⟨rfl, hw9⟩
     go_wp2_with fail
     go_meet
     exact hw9
   case rest =>
   have HQ := hide hcut
   clear hcut HC1 HN1 HBQ
   as_aux_lemma =>
    go_upto_region 41 with fail
    go_cut [199] (fun v wx => v = .bool (decide (a < i ∧ i < mid)) ∧ wx = wc)
    case first =>
     rcases Nat.lt_or_ge a i with k1 | k1
     all_goals rcases Nat.lt_or_ge i mid with k2 | k2
     all_goals first | have k3 : (a : Int) < (i : Int) := by omega | have k3 : ¬ ((a : Int) < (i : Int)) := by omega
     all_goals first | have k4 : (i : Int) < (mid : Int) := by omega | have k4 : ¬ ((i : Int) < (mid : Int)) := by omega
     all_goals go_wp2_with fail
     all_goals go_meet
     all_goals first | rw [decide_eq_true (show a < i ∧ i < mid by omega)] | rw [decide_eq_false (show ¬ (a < i ∧ i < mid) by omega)]
     all_goals exact ⟨rfl, rfl⟩
    case rest =>
    obtain ⟨rfl, rfl⟩ := hcut
    obtain ⟨bq, hbq⟩ : ∃ bq, decide (a < i ∧ i < mid) = bq := ⟨_, rfl⟩
    rw [hbq]
    have HBQ := hide hbq
    clear hbq
    go_upto_if 199 with fail
    go_cut [] (fun wx => RowJ g sp B l2 X wx)
    case first =>
     cases bq
     ·go_wp2_with fail
      go_meet
      rw [HN2.out (of_decide_eq_false HBQ.out)]
      exact HQ.out
     ·go_wp2_with fail
      refine (HC2.out (of_decide_eq_true HBQ.out) _ HQ.out).mono ?_
      rintro e w9 ⟨rfl, hw9⟩
      go_wp2_with fail
      go_meet
      exact hw9
    case rest =>
    have HQ := hide hcut
    clear hcut HC2 HN2 HBQ
    as_aux_lemma =>
     go_upto_region 43 with fail
     go_cut [213] (fun v wx => v = .bool (decide (mid < en ∧ en < b)) ∧ wx = wc)
     case first =>
      rcases Nat.lt_or_ge mid en with k1 | k1
      all_goals rcases Nat.lt_or_ge en b with k2 | k2
      all_goals first | have k3 : (mid : Int) < (en : Int) := by omega | have k3 : ¬ ((mid : Int) < (en : Int)) := by omega
      all_goals first | have k4 : (en : Int) < (b : Int) := by omega | have k4 : ¬ ((en : Int) < (b : Int)) := by omega
      all_goals go_wp2_with fail
      all_goals go_meet
      all_goals first | rw [decide_eq_true (show mid < en ∧ en < b by omega)] | rw [decide_eq_false (show ¬ (mid < en ∧ en < b) by omega)]
      all_goals exact ⟨rfl, rfl⟩
     case rest =>
     obtain ⟨rfl, rfl⟩ := hcut
     obtain ⟨bq, hbq⟩ : ∃ bq, decide (mid < en ∧ en < b) = bq := ⟨_, rfl⟩
     rw [hbq]
     have HBQ := hide hbq
     clear hbq
     cases bq
     ·go_wp2
      go_end0
      rw [HN3.out (of_decide_eq_false HBQ.out)]
      exact ⟨rfl, HQ.out⟩
     ·go_wp2_with fail
      refine (HC3.out (of_decide_eq_true HBQ.out) _ HQ.out).mono ?_
      rintro e w9 ⟨rfl, hw9⟩
      go_wp2
      go_end0
      exact ⟨rfl, hw9⟩
theorem sym_of (g cap B : Nat) (sp : List Value) (X : World) (hBg : B ≤ g) (hBX : B ≤ X.heap.size) (L : Nat) (hLz : L ≤ 1000000) : ∀ (f a m b : Nat) (l R : List Dg.Cl) (w : World), a < m → m < b → b ≤ L → b - a ≤ f → l.length = L → Dg.symJ ltK f a m b l = R → RowJ g sp B l X w →
  Calls Tryz.prog 81 #[.slice (some ⟨g, 0, none⟩) L cap, .int .i64 a, .int .i64 m, .int .i64 b, .func (.func 27) #[] #[]] w fun e w' => e = .returned (.tuple #[]) ∧ RowJ g sp B R X w'
 | 0, a, m, b, _, _, _, h1, h2, _, hf, _, _, _ => by omega
 | f + 1, a, m, b, l, R, w, h1, h2, h3, hf, hL, hR, hw => by
  by_cases c1 : m - a = 1
  ·rw [Dg.symJ, if_pos c1] at hR
   exact sym1_of g cap B sp X hBg hBX L hLz a m b h1 h2 h3 c1 l hL R hR w hw
  ·by_cases c2 : b - m = 1
   ·rw [Dg.symJ, if_neg c1, if_pos c2] at hR
    exact sym2_of g cap B sp X hBg hBX L hLz a m b h1 h2 h3 c1 c2 l hL R hR w hw
   ·exact sym3_of g cap B sp X hBg hBX L hLz a m b h1 h2 h3 c1 c2 f (fun a m b l R w h1 h2 h3 hf hL hR hw => sym_of g cap B sp X hBg hBX L hLz f a m b l R w h1 h2 h3 hf hL hR hw) hf l hL R hR w hw
end Go.Proofs.YtkpbofnnnihbeaaGreat

