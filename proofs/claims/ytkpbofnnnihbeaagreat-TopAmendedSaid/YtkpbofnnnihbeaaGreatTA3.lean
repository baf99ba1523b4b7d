/- Walks and laws of this seat, several texts in one. No conditions but those that each theorem states. -/
import Derived.Test.YtkpbofnnnihbeaaGreatTA2
import Derived.Laws.StructEq
import Derived.Lib.LastIndexLaws
set_option maxRecDepth 100000
set_option maxHeartbeats 16000000
set_option linter.unusedSimpArgs false
set_option linter.unusedVariables false
namespace Go.Proofs.YtkpbofnnnihbeaaGreat
open Go Go.RowKit Go.Sort Go.Maps Rw Tryz
theorem sub_cons {l : List Dg.It} {i : Nat} (hi : i < l.length) (K : Nat) : (l.drop i).take (1 + K) = l[i] :: (l.drop (i + 1)).take K := by
 rw [Nat.add_comm, List.drop_eq_getElem_cons hi, List.take_succ_cons]
theorem Its.sub {w : World} {B b off : Nat} {l : List Dg.It} (h : Its w B (Option.some ⟨b, off, none⟩) l) (i k : Nat) : Its w B (Option.some ⟨b, off + i * 7, none⟩) ((l.drop i).take k) := ((h.row.drop i).take k).its
attribute [-go_sem] Instr.storeAt in
theorem move_e (l : List Dg.It) (b off : Nat) (n c : Nat) (hl : l.length = n) (hn : n ≤ 1048576) (p : Dg.Pt) (i : Nat) (hex : Dg.existsP l p = false) (w : World) (hI : Its w w.heap.size (some ⟨b, off, none⟩) l) :
  Calls Tryz.prog 66 #[.agg (Rq6 b off n c p i)] w (ApR ([], 14) w) := by
 obtain ⟨r1, r2, hb, hs⟩ := iAlloc2 w (.cells (Rq6 b off n c p i) 143) (.cells Rq3 24)
 have HI := hide (hI.keep hb); have HL := hide hl; have HX := hide hex
 have hRG := hide (range_of r1 1 (Rq0 p) rfl)
 clear hI hl hex
 go_enter func66, ntmps66
 go_upto_region 1 with (fail)
 have hsz : w.heap.size + 2 ≤ ((w.alloc (.cells (Rq6 b off n c p i) 143)).alloc (.cells Rq3 24)).heap.size := by omega
 clear hs
 generalize (w.alloc (.cells (Rq6 b off n c p i) 143)).alloc (.cells Rq3 24) = W1 at *
 have hst := store_new (ty := 53) (T := 53) W1 Rq2 (Rq0 p) (by kernel_rfl) rfl (all_oneCell_toArray (ptL.one p))
 go_upto_region 2 with (with_reducible refine wpList_load_mid rfl 53 (.tmp 7) rfl w.heap.size 1 rfl _ _ hRG.out underlying53 rfl (by kernel_rfl) ?_)
 clear hst hRG
 have r4 := heap_alloc_new W1 (.cells (Rq0 p) 53)
 have hbn := nwB W1 (.cells (Rq0 p) 53)
 have r12 := iNext r1 hbn
 have r22 := iNext r2 hbn
 have HI2 := hide (HI.out.keep hbn)
 have hb3 := bnext hb hbn
 obtain ⟨b4, hb4⟩ : ∃ b4, b4 = W1.heap.size := ⟨_, rfl⟩
 have HB4 := hide hb4
 rw [← hb4] at r4 hsz ⊢
 clear hbn hb r1 r2 HI hb4
 generalize W1.alloc (.cells (Rq0 p) 53) = w2 at *
 clear HB4
 have hR17 := hide (range_of r12 0 (Rq6 b off n c p i) rfl)
 go_wp2_with (with_reducible refine wpList_load_mid rfl 143 (.tmp 1) rfl w.heap.size 0 rfl _ _ hR17.out underlying143 rfl (by kernel_rfl) ?_)
 refine (exists_of l (some ⟨b, off, none⟩) n c HL.out hn p (i : Int) w2 HI2.out false HX.out).mono ?_
 rintro e w3 ⟨rfl, hbq⟩
 clear hR17
 have r13 := iNext r12 hbq
 have r23 := iNext r22 hbq
 have r43 := iNext r4 hbq
 have HI3 := hide (HI2.out.keep hbq)
 have hb5 := bnext hb3 hbq
 clear hbq hb3 r12 r22 r4 HI2
 have hcs := jC15 r43
 have k1 := hcs.2.1; have k2 := hcs.2.2.1; have k3 := hcs.2.2.2.1
 clear hcs
 have hst := store_part (ty := 24) w3 (w.heap.size + 1) 0 Rq3 (.agg Rq3) Rq3 r23 infoCode1 (Nat.le_refl _) (one_code _ _ _) rfl
 have r25 := setRow_heap w3 (w.heap.size + 1) _ Rq3 _ _ r23
 have hb8 := below_setRow hb5 (by omega) (g := w.heap.size + 1) Rq3
 go_wp2
 refine bodyPost_ret (results_c8 results66 _ _ (w.heap.size + 1) 24 #[.slice none 0 0] (0, 0) _ rfl r25 underlying24 (by kernel_rfl)) rfl (ApR.err rfl hb8)
attribute [-go_sem] Instr.storeAt in
theorem move_1 (l : List Dg.It) (b off : Nat) (n c : Nat) (hl : l.length = n) (hn : n ≤ 1048576) (p : Dg.Pt) (i : Nat) (hex : Dg.existsP l p = true) (h1 : (p.parent.toList == p.id.toList) = true) (w : World) (hI : Its w w.heap.size (some ⟨b, off, none⟩) l) :
  Calls Tryz.prog 66 #[.agg (Rq6 b off n c p i)] w (ApR ([], 14) w) := by
 obtain ⟨r1, r2, hb, hs⟩ := iAlloc2 w (.cells (Rq6 b off n c p i) 143) (.cells Rq3 24)
 have HI := hide (hI.keep hb); have HL := hide hl; have HX := hide hex
 have hRG := hide (range_of r1 1 (Rq0 p) rfl)
 clear hI hl hex
 go_enter func66, ntmps66
 go_upto_region 1 with (fail)
 have hsz : w.heap.size + 2 ≤ ((w.alloc (.cells (Rq6 b off n c p i) 143)).alloc (.cells Rq3 24)).heap.size := by omega
 clear hs
 generalize (w.alloc (.cells (Rq6 b off n c p i) 143)).alloc (.cells Rq3 24) = W1 at *
 have hst := store_new (ty := 53) (T := 53) W1 Rq2 (Rq0 p) (by kernel_rfl) rfl (all_oneCell_toArray (ptL.one p))
 go_upto_region 2 with (with_reducible refine wpList_load_mid rfl 53 (.tmp 7) rfl w.heap.size 1 rfl _ _ hRG.out underlying53 rfl (by kernel_rfl) ?_)
 clear hst hRG
 have r4 := heap_alloc_new W1 (.cells (Rq0 p) 53)
 have hbn := nwB W1 (.cells (Rq0 p) 53)
 have r12 := iNext r1 hbn
 have r22 := iNext r2 hbn
 have HI2 := hide (HI.out.keep hbn)
 have hb3 := bnext hb hbn
 obtain ⟨b4, hb4⟩ : ∃ b4, b4 = W1.heap.size := ⟨_, rfl⟩
 have HB4 := hide hb4
 rw [← hb4] at r4 hsz ⊢
 clear hbn hb r1 r2 HI hb4
 generalize W1.alloc (.cells (Rq0 p) 53) = w2 at *
 clear HB4
 have hR17 := hide (range_of r12 0 (Rq6 b off n c p i) rfl)
 go_wp2_with (with_reducible refine wpList_load_mid rfl 143 (.tmp 1) rfl w.heap.size 0 rfl _ _ hR17.out underlying143 rfl (by kernel_rfl) ?_)
 refine (exists_of l (some ⟨b, off, none⟩) n c HL.out hn p (i : Int) w2 HI2.out true HX.out).mono ?_
 rintro e w3 ⟨rfl, hbq⟩
 clear hR17
 have r13 := iNext r12 hbq
 have r23 := iNext r22 hbq
 have r43 := iNext r4 hbq
 have HI3 := hide (HI2.out.keep hbq)
 have hb5 := bnext hb3 hbq
 clear hbq hb3 r12 r22 r4 HI2
 have hcs := jC15 r43
 have k1 := hcs.2.1; have k2 := hcs.2.2.1; have k3 := hcs.2.2.2.1
 clear hcs
 have hst := store_part (ty := 24) w3 (w.heap.size + 1) 0 Rq3 (.agg Rq3) Rq3 r23 infoCode1 (Nat.le_refl _) (one_code _ _ _) rfl
 have r25 := setRow_heap w3 (w.heap.size + 1) _ Rq3 _ _ r23
 have hb8 := below_setRow hb5 (by omega) (g := w.heap.size + 1) Rq3
 go_wp2
 refine bodyPost_ret (results_c8 results66 _ _ (w.heap.size + 1) 24 #[.slice none 0 0] (0, 0) _ rfl r25 underlying24 (by kernel_rfl)) rfl (ApR.err rfl hb8)
attribute [-go_sem] Instr.storeAt in
theorem move_2 (l : List Dg.It) (b off : Nat) (n c : Nat) (hl : l.length = n) (hn : n ≤ 1048576) (p : Dg.Pt) (i : Nat) (hex : Dg.existsP l p = true) (h1 : (p.parent.toList == p.id.toList) = false) (h2 : (p.after.toList == p.id.toList) = true) (w : World) (hI : Its w w.heap.size (some ⟨b, off, none⟩) l) :
  Calls Tryz.prog 66 #[.agg (Rq6 b off n c p i)] w (ApR ([], 14) w) := by
 obtain ⟨r1, r2, hb, hs⟩ := iAlloc2 w (.cells (Rq6 b off n c p i) 143) (.cells Rq3 24)
 have HI := hide (hI.keep hb); have HL := hide hl; have HX := hide hex
 have hRG := hide (range_of r1 1 (Rq0 p) rfl)
 clear hI hl hex
 go_enter func66, ntmps66
 go_upto_region 1 with (fail)
 have hsz : w.heap.size + 2 ≤ ((w.alloc (.cells (Rq6 b off n c p i) 143)).alloc (.cells Rq3 24)).heap.size := by omega
 clear hs
 generalize (w.alloc (.cells (Rq6 b off n c p i) 143)).alloc (.cells Rq3 24) = W1 at *
 have hst := store_new (ty := 53) (T := 53) W1 Rq2 (Rq0 p) (by kernel_rfl) rfl (all_oneCell_toArray (ptL.one p))
 go_upto_region 2 with (with_reducible refine wpList_load_mid rfl 53 (.tmp 7) rfl w.heap.size 1 rfl _ _ hRG.out underlying53 rfl (by kernel_rfl) ?_)
 clear hst hRG
 have r4 := heap_alloc_new W1 (.cells (Rq0 p) 53)
 have hbn := nwB W1 (.cells (Rq0 p) 53)
 have r12 := iNext r1 hbn
 have r22 := iNext r2 hbn
 have HI2 := hide (HI.out.keep hbn)
 have hb3 := bnext hb hbn
 obtain ⟨b4, hb4⟩ : ∃ b4, b4 = W1.heap.size := ⟨_, rfl⟩
 have HB4 := hide hb4
 rw [← hb4] at r4 hsz ⊢
 clear hbn hb r1 r2 HI hb4
 generalize W1.alloc (.cells (Rq0 p) 53) = w2 at *
 clear HB4
 have hR17 := hide (range_of r12 0 (Rq6 b off n c p i) rfl)
 go_wp2_with (with_reducible refine wpList_load_mid rfl 143 (.tmp 1) rfl w.heap.size 0 rfl _ _ hR17.out underlying143 rfl (by kernel_rfl) ?_)
 refine (exists_of l (some ⟨b, off, none⟩) n c HL.out hn p (i : Int) w2 HI2.out true HX.out).mono ?_
 rintro e w3 ⟨rfl, hbq⟩
 clear hR17
 have r13 := iNext r12 hbq
 have r23 := iNext r22 hbq
 have r43 := iNext r4 hbq
 have HI3 := hide (HI2.out.keep hbq)
 have hb5 := bnext hb3 hbq
 clear hbq hb3 r12 r22 r4 HI2
 have hcs := jC15 r43
 have k1 := hcs.2.1; have k2 := hcs.2.2.1; have k3 := hcs.2.2.2.1
 clear hcs
 have hst := store_part (ty := 24) w3 (w.heap.size + 1) 0 Rq3 (.agg Rq3) Rq3 r23 infoCode1 (Nat.le_refl _) (one_code _ _ _) rfl
 have r25 := setRow_heap w3 (w.heap.size + 1) _ Rq3 _ _ r23
 have hb8 := below_setRow hb5 (by omega) (g := w.heap.size + 1) Rq3
 go_wp2
 refine bodyPost_ret (results_c8 results66 _ _ (w.heap.size + 1) 24 #[.slice none 0 0] (0, 0) _ rfl r25 underlying24 (by kernel_rfl)) rfl (ApR.err rfl hb8)
attribute [-go_sem] Instr.storeAt in
theorem move_3 (l : List Dg.It) (b off : Nat) (n c : Nat) (hl : l.length = n) (hn : n ≤ 1048576) (p : Dg.Pt) (i : Nat) (hex : Dg.existsP l p = true) (h1 : (p.parent.toList == p.id.toList) = false) (h2 : (p.after.toList == p.id.toList) = false) (h3 : p.parent.toList.isEmpty = false) (hw : ∀ x ∈ l, ItW x) (hu : underC l p.parent p.id = true) (w : World) (hI : Its w w.heap.size (some ⟨b, off, none⟩) l) :
  Calls Tryz.prog 66 #[.agg (Rq6 b off n c p i)] w (ApR ([], 14) w) := by
 obtain ⟨r1, r2, hb, hs⟩ := iAlloc2 w (.cells (Rq6 b off n c p i) 143) (.cells Rq3 24)
 have HI := hide (hI.keep hb); have HL := hide hl; have HX := hide hex
 have HW := hide hw; have HU := hide hu
 clear hw hu
 have hRG := hide (range_of r1 1 (Rq0 p) rfl)
 clear hI hl hex
 go_enter func66, ntmps66
 go_upto_region 1 with (fail)
 have hsz : w.heap.size + 2 ≤ ((w.alloc (.cells (Rq6 b off n c p i) 143)).alloc (.cells Rq3 24)).heap.size := by omega
 clear hs
 generalize (w.alloc (.cells (Rq6 b off n c p i) 143)).alloc (.cells Rq3 24) = W1 at *
 have hst := store_new (ty := 53) (T := 53) W1 Rq2 (Rq0 p) (by kernel_rfl) rfl (all_oneCell_toArray (ptL.one p))
 go_upto_region 2 with (with_reducible refine wpList_load_mid rfl 53 (.tmp 7) rfl w.heap.size 1 rfl _ _ hRG.out underlying53 rfl (by kernel_rfl) ?_)
 clear hst hRG
 have r4 := heap_alloc_new W1 (.cells (Rq0 p) 53)
 have hbn := nwB W1 (.cells (Rq0 p) 53)
 have r12 := iNext r1 hbn
 have r22 := iNext r2 hbn
 have HI2 := hide (HI.out.keep hbn)
 have hb3 := bnext hb hbn
 obtain ⟨b4, hb4⟩ : ∃ b4, b4 = W1.heap.size := ⟨_, rfl⟩
 have HB4 := hide hb4
 rw [← hb4] at r4 hsz ⊢
 clear hbn hb r1 r2 HI hb4
 generalize W1.alloc (.cells (Rq0 p) 53) = w2 at *
 clear HB4
 have hR17 := hide (range_of r12 0 (Rq6 b off n c p i) rfl)
 go_wp2_with (with_reducible refine wpList_load_mid rfl 143 (.tmp 1) rfl w.heap.size 0 rfl _ _ hR17.out underlying143 rfl (by kernel_rfl) ?_)
 refine (exists_of l (some ⟨b, off, none⟩) n c HL.out hn p (i : Int) w2 HI2.out true HX.out).mono ?_
 rintro e w3 ⟨rfl, hbq⟩
 clear hR17
 have r13 := iNext r12 hbq
 have r23 := iNext r22 hbq
 have r43 := iNext r4 hbq
 have HI3 := hide (HI2.out.keep hbq)
 have hb5 := bnext hb3 hbq
 clear hbq hb3 r12 r22 r4 HI2
 have hcs := jC15 r43
 have k1 := hcs.2.1; have k2 := hcs.2.2.1; have k3 := hcs.2.2.2.1
 clear hcs
 have c0 := (jC17 r13).1
 go_wp2_with fail
 clear c0 k1 k2 k3
 refine (Code.under_of l (some ⟨b, off, none⟩) n c HL.out HW.out hn p.parent p.id w3 HI3.out true HU.out).mono ?_
 rintro e w4 ⟨rfl, hbq⟩
 have r14 := iNext r13 hbq
 have r24 := iNext r23 hbq
 have r44 := iNext r43 hbq
 have HI4 := hide (HI3.out.keep hbq)
 have hb6 := bnext hb5 hbq
 clear hbq hb5 r13 r23 r43 HI3
 have hst := store_part (ty := 24) w4 (w.heap.size + 1) 0 Rq3 (.agg Rq3) Rq3 r24 infoCode1 (Nat.le_refl _) (one_code _ _ _) rfl
 have r25 := setRow_heap w4 (w.heap.size + 1) _ Rq3 _ _ r24
 have hb8 := below_setRow hb6 (by omega) (g := w.heap.size + 1) Rq3
 go_wp2
 refine bodyPost_ret (results_c8 results66 _ _ (w.heap.size + 1) 24 #[.slice none 0 0] (0, 0) _ rfl r25 underlying24 (by kernel_rfl)) rfl (ApR.err rfl hb8)
attribute [-go_sem] Instr.storeAt in
theorem move_n (l : List Dg.It) (b off : Nat) (n c : Nat) (hl : l.length = n) (hn : n ≤ 1048576) (p : Dg.Pt) (i : Nat) (hi : i < n) (hnc : n ≤ c) (hv : Dg.validC l = true) (y : Dg.It) (hy : l[i]? = some y) (K : Nat) (hK : Dg.belowN l p.id = K) (hle : i + (1 + K) ≤ n) (hex : Dg.existsP l p = true) (hcv : Dg.validC (Dg.cutC l i K) = true) (hce : Dg.existsP (Dg.cutC l i K) p = true) (h1 : (p.parent.toList == p.id.toList) = false) (h2 : (p.after.toList == p.id.toList) = false) (h3 : p.parent.toList.isEmpty = true) (hw : ∀ x ∈ l, ItW x) (w : World) (hI : Its w w.heap.size (some ⟨b, off, none⟩) l) :
  Calls Tryz.prog 66 #[.agg (Rq6 b off n c p i)] w (ApR (Dg.putP (Dg.cutC l i K) p ({ y with parent := p.parent } :: (l.drop (i + 1)).take K), 0) w) := by
 obtain ⟨r1, r2, hb, hs⟩ := iAlloc2 w (.cells (Rq6 b off n c p i) 143) (.cells Rq3 24)
 have HI := hide (hI.keep hb); have HL := hide hl; have HX := hide hex
 have hmx := hmxQ
 have HV := hide hv; have HY := hide hy; have HK := hide hK; have HCV := hide hcv; have HCE := hide hce; have HLE := hide hle
 clear hv hy hK hcv hce hle
 have HW := hide hw
 clear hw
 have hRG := hide (range_of r1 1 (Rq0 p) rfl)
 clear hI hl hex
 go_enter func66, ntmps66
 go_upto_region 1 with (fail)
 have hsz : w.heap.size + 2 ≤ ((w.alloc (.cells (Rq6 b off n c p i) 143)).alloc (.cells Rq3 24)).heap.size := by omega
 clear hs
 generalize (w.alloc (.cells (Rq6 b off n c p i) 143)).alloc (.cells Rq3 24) = W1 at *
 have hst := store_new (ty := 53) (T := 53) W1 Rq2 (Rq0 p) (by kernel_rfl) rfl (all_oneCell_toArray (ptL.one p))
 go_upto_region 2 with (with_reducible refine wpList_load_mid rfl 53 (.tmp 7) rfl w.heap.size 1 rfl _ _ hRG.out underlying53 rfl (by kernel_rfl) ?_)
 clear hst hRG
 have r4 := heap_alloc_new W1 (.cells (Rq0 p) 53)
 have hbn := nwB W1 (.cells (Rq0 p) 53)
 have r12 := iNext r1 hbn
 have r22 := iNext r2 hbn
 have HI2 := hide (HI.out.keep hbn)
 have hb3 := bnext hb hbn
 obtain ⟨b4, hb4⟩ : ∃ b4, b4 = W1.heap.size := ⟨_, rfl⟩
 have HB4 := hide hb4
 rw [← hb4] at r4 hsz ⊢
 clear hbn hb r1 r2 HI hb4
 generalize W1.alloc (.cells (Rq0 p) 53) = w2 at *
 clear HB4
 have hR17 := hide (range_of r12 0 (Rq6 b off n c p i) rfl)
 go_wp2_with (with_reducible refine wpList_load_mid rfl 143 (.tmp 1) rfl w.heap.size 0 rfl _ _ hR17.out underlying143 rfl (by kernel_rfl) ?_)
 refine (exists_of l (some ⟨b, off, none⟩) n c HL.out hn p (i : Int) w2 HI2.out true HX.out).mono ?_
 rintro e w3 ⟨rfl, hbq⟩
 clear hR17
 have r13 := iNext r12 hbq
 have r23 := iNext r22 hbq
 have r43 := iNext r4 hbq
 have HI3 := hide (HI2.out.keep hbq)
 have hb5 := bnext hb3 hbq
 clear hbq hb3 r12 r22 r4 HI2
 have hcs := jC15 r43
 have k1 := hcs.2.1; have k2 := hcs.2.2.1; have k3 := hcs.2.2.2.1
 clear hcs
 have r14 := r13
 have r24 := r23
 have r44 := r43
 have HI4 := HI3
 have hb6 := hb5
 go_upto_region 4 with (fail)
 clear hb5 r13 r23 r43 HI3 k1 k2 k3
 generalize w3 = w4 at *
 have hR17 := hide (range_of r14 0 (Rq6 b off n c p i) rfl)
 have k1 := (jC15 r44).2.1
 go_wp2_with (with_reducible refine wpList_load_mid rfl 143 (.tmp 1) rfl w.heap.size 0 rfl _ _ hR17.out underlying143 rfl (by kernel_rfl) ?_)
 refine (size_of l (some ⟨b, off, none⟩) n c HL.out hn p (i : Int) HW.out HV.out p.id w4 HI4.out K HK.out).mono ?_
 rintro e w5 ⟨rfl, hbq⟩
 clear hR17 k1
 have r15 := iNext r14 hbq
 have r25 := iNext r24 hbq
 have r45 := iNext r44 hbq
 have HI5 := hide (HI4.out.keep hbq)
 have hb7 := bnext hb6 hbq
 clear hbq hb6 r14 r24 r44 HI4
 obtain ⟨m, hm⟩ : ∃ m, m = 1 + K := ⟨_, rfl⟩
 rw [← hm]
 have hm0 : 0 < m := by omega
 have hmn : i + m ≤ n := by have := HLE.out; omega
 have HM := hide hm
 clear hm
 have hcs := jC17 r15
 have c0 := hcs.1; have c16 := hcs.2.2.2.2.2.2.2.2.2.2.2.2.2.2.2.2
 clear hcs
 have j0 : (0 : Int) ≤ (i : Int) := by omega
 have j1 : (i : Int) + (m : Int) ≤ (n : Int) := by omega
 have j2 : (i : Int) + (m : Int) ≤ (c : Int) := by omega
 have j3 : ¬ (c = i) := by omega
 have j4 : ((i : Int) + (m : Int)).toNat = i + m := by omega
 have j5 : i + m - i = m := by omega
 have j6 : i + m ≤ c := by omega
 have j7 : i ≤ i + m := by omega
 go_wp2_with fail
 clear c0 c16 j1 j2 j3 j4 j5 j6 j7
 have hlm : ((l.drop i).take m).length = m := by rw [List.length_take, List.length_drop, HL.out]; omega
 refine (cloneI_any (some ⟨b, off + i * 7, none⟩) m (c - i) ((l.drop i).take m) w5 hlm (by omega) (HI5.out.sub i m)).mono ?_
 rintro e w6 ⟨v1, rfl, hO, hbq⟩
 obtain ⟨hil, hyi⟩ := List.getElem?_eq_some_iff.1 HY.out
 have hsub : (l.drop i).take m = y :: (l.drop (i + 1)).take K := by rw [HM.out, sub_cons hil, hyi]
 rw [hsub] at hO hlm
 clear hsub hil hyi
 obtain ⟨R, hR⟩ : ∃ R, R = (l.drop (i + 1)).take K := ⟨_, rfl⟩
 rw [← hR] at hO hlm
 have HR := hide hR
 clear hR
 obtain ⟨g, cap, sp, hv1, hBg, hgl, hg, _, _, _⟩ := hO.form (by rw [hlm]; exact hm0)
 rw [hlm] at hv1
 subst hv1
 have r16 := iNext r15 hbq
 have r26 := iNext r25 hbq
 have r46 := iNext r45 hbq
 have HI6 := hide (HI5.out.keep hbq)
 have hb8 := bnext hb7 hbq
 have hl1 := lt_of_block r15
 have hl2 := lt_of_block r25
 have hl4 := lt_of_block r45
 have hflat : 7 ≤ (iLay.flat (y :: R) ++ sp).length := by
  rw [List.length_append, iLay.flat_len, List.length_cons]
  show 7 ≤ (R.length + 1) * 7 + _
  omega
 have hst := store_part (ty := 9) w6 g 2 (iLay.flat (y :: R) ++ sp).toArray (.string p.parent) (iLay.flat ({ y with parent := p.parent } :: R) ++ sp).toArray hg infoStr1 (by show 2 + 1 ≤ (iLay.flat (y :: R) ++ sp).length; omega) (one_str _) rfl
 have hg7 := setRow_heap w6 g _ (iLay.flat ({ y with parent := p.parent } :: R) ++ sp).toArray _ _ hg
 have r17 := (setRow_other w6 g (w.heap.size) (iLay.flat ({ y with parent := p.parent } :: R) ++ sp).toArray (by omega)).trans r16
 have r27 := (setRow_other w6 g (w.heap.size + 1) (iLay.flat ({ y with parent := p.parent } :: R) ++ sp).toArray (by omega)).trans r26
 have HI7 := hide (its_other (HI5.out.below hbq) hBg (iLay.flat ({ y with parent := p.parent } :: R) ++ sp).toArray)
 have hb9 := below_setRow hb8 (by omega) (g := g) (iLay.flat ({ y with parent := p.parent } :: R) ++ sp).toArray
 have hs5 : w5.heap.size ≤ w6.heap.size := hbq.size
 have HLM := hide (And.intro hlm hflat)
 have k2 := (jC15 r46).2.2.1
 clear hO hbq r15 r25 r45 r16 r26 r46 HI5 HI6 hb7 hb8 hg hl4 hlm hflat
 have j8 : (0 : Int) < (m : Int) := by omega
 go_upto_region 7 with (fail)
 clear hst k2 j8
 have HI8 := hide (HI7.out.more (B' := (w6.setRow g (iLay.flat ({ y with parent := p.parent } :: R) ++ sp).toArray).heap.size) (by simp [World.setRow]; omega))
 have hgl7 := lt_of_block hg7
 clear HI7
 generalize w6.setRow g (iLay.flat ({ y with parent := p.parent } :: R) ++ sp).toArray = w7 at *
 refine wp_region_noPanic ?_
 refine wp_region_L (fun X => X.heap[w.heap.size]? = some (.cells (Rq6 b off n c p i) 143 (0, 0))) 13 hmx ?_
 have hdr := (Below.refl w7.heap.size w7).drew
 have hS1 : (fun X : World => X.heap[w.heap.size]? = some (.cells (Rq6 b off n c p i) 143 (0, 0))) w7.drew := iNext r17 hdr
 have r28 := iNext r27 hdr
 have hg8 := iNext hg7 hdr
 have HI9 := hide (HI8.out.keep hdr)
 have hb10 := bnext hb9 hdr
 have hl7 := Nat.lt_of_lt_of_le hgl7 hdr.size
 clear hdr r17 r27 HI8 hb9 hgl7 hg7
 generalize w7.drew = w8 at *
 have hwr : IntKind.i64.wrap ((i : Int) + (m : Int)) = (i : Int) + (m : Int) := by rw [IntKind.wrap_i64]; omega
 refine tU 0 16 hS1 rfl ?_
 refine tU 1 16 hS1 rfl ?_
 refine tU 2 16 hS1 rfl ?_ (by intro wS hS; have hcs := jC17 hS; have c0 := hcs.1; have c16 := hcs.2.2.2.2.2.2.2.2.2.2.2.2.2.2.2.2; clear hcs; go_simp; (try with_reducible rfl))
 refine tU 4 16 hS1 rfl ?_
 refine tU 5 16 hS1 rfl ?_ (by intro wS hS; have hcs := jC17 hS; have c0 := hcs.1; have c16 := hcs.2.2.2.2.2.2.2.2.2.2.2.2.2.2.2.2; clear hcs; go_simp; (try with_reducible rfl))
 refine tU 6 16 hS1 rfl ?_
 refine tU 7 16 hS1 rfl ?_ (by intro wS hS; have hcs := jC17 hS; have c0 := hcs.1; have c16 := hcs.2.2.2.2.2.2.2.2.2.2.2.2.2.2.2.2; clear hcs; go_simp; (try with_reducible rfl))
 refine tU 8 16 hS1 rfl ?_
 refine tU 9 16 hS1 rfl ?_
 refine wpAnyL_one (i := 3) (by decide +kernel) (by rfl) (fun K9 hK9 => ?_)
 rw [if_pos (by rfl)]
 go_simp
 refine (cloneI_any (some ⟨b, off, none⟩) n c l w8 HL.out (by omega) HI9.out).mono ?_
 rintro e w9 ⟨v2, rfl, hO2, hbq⟩
 obtain ⟨A1, c1, hv2, _, _⟩ := hO2.row
 have hvh := HL.out
 rw [hvh] at hv2
 clear hvh
 subst hv2
 have hS2 : (fun X : World => X.heap[w.heap.size]? = some (.cells (Rq6 b off n c p i) 143 (0, 0))) w9 := iNext hS1 hbq
 have r29 := iNext r28 hbq
 have hg9 := iNext hg8 hbq
 have hb11 := bnext hb10 hbq
 have hs8 := hbq.size
 refine hK9.out _ _ (Or.inr hS2) ?_
 have hl81 := lt_of_block hS1
 have hl82 := lt_of_block r28
 clear hK9 K9 hS1 r28 hg8 hb10 hbq HI9
 try simp only [Act.put, pu]
 refine wpAnyL_one (i := 10) (by decide +kernel) (by rfl) (fun K9 hK9 => ?_)
 rw [if_pos (by rfl)]
 go_simp
 have hdel := deleteI_any (.slice A1 n c1) l i (i + m) w8.heap.size w9 hO2 (by omega) (by rw [HL.out]; exact hmn) (by rw [HL.out]; omega)
 rw [Int.natCast_add] at hdel
 refine hdel.mono ?_
 rintro e w10 ⟨v3, rfl, hO3, hbq⟩
 clear hdel
 obtain ⟨A3, c3, hv3, _, _⟩ := hO3.row
 have hcut : l.take i ++ l.drop (i + m) = Dg.cutC l i K := by unfold Dg.cutC; rw [HM.out, show i + (1 + K) = i + 1 + K by omega]
 rw [hcut] at hO3 hv3
 clear hcut
 obtain ⟨n3, hn3⟩ : ∃ n3, (Dg.cutC l i K).length = n3 := ⟨_, rfl⟩
 have hn3' : n3 + m = n := by
  rw [← hn3]
  unfold Dg.cutC
  rw [List.length_append, List.length_take, List.length_drop, HL.out, HM.out]
  have := HM.out
  omega
 rw [hn3] at hv3
 subst hv3
 have HN3 := hide (And.intro hn3 hn3')
 clear hn3 hn3'
 have hS3 : (fun X : World => X.heap[w.heap.size]? = some (.cells (Rq6 b off n c p i) 143 (0, 0))) w10 := (hbq.block _ hl81).trans hS2
 have r210 := (hbq.block _ hl82).trans r29
 have hg10 := (hbq.block _ hl7).trans hg9
 have hb12 : Below w.heap.size w w10 := hb11.trans (hbq.mono (by omega))
 refine hK9.out _ _ (Or.inr hS3) ?_
 clear hK9 K9 hS2 r29 hg9 hb11 hbq hO2
 try simp only [Act.put, pu]
 refine wpAnyL_one (i := 11) (by decide +kernel) (by rfl) (fun K9 hK9 => ?_)
 rw [if_pos (by rfl)]
 go_simp
 refine hK9.out _ _ (Or.inr hS3) ?_
 clear hK9 K9
 try simp only [Act.put, pu]
 refine wpAnyL_one (i := 12) (by decide +kernel) (by rfl) (fun K9 hK9 => ?_)
 rw [if_pos (by rfl)]
 go_simp
 refine hK9.out _ _ (Or.inr hS3) ?_
 clear hK9 K9
 try simp only [Act.put, pu]
 refine wpAnyL_one (i := 13) (by decide +kernel) (by rfl) (fun K9 hK9 => ?_)
 rw [if_pos (by rfl)]
 have hst := store_part (ty := 24) w10 w.heap.size 0 (Rq6 b off n c p i) (.agg #[.slice A3 n3 c3]) (Rq5 A3 n3 c3 p i) hS3 infoCode1 (by show 1 ≤ 17; decide) (one_code _ _ _) rfl
 have r111 := setRow_heap w10 w.heap.size _ (Rq5 A3 n3 c3 p i) _ _ hS3
 have r211 := (setRow_other w10 w.heap.size (w.heap.size + 1) (Rq5 A3 n3 c3 p i) (by omega)).trans r210
 have hg11 := (setRow_other w10 w.heap.size g (Rq5 A3 n3 c3 p i) (by omega)).trans hg10
 have hb13 := below_setRow hb12 (Nat.le_refl _) (g := w.heap.size) (Rq5 A3 n3 c3 p i)
 have hO4 := own_other hO3 (g := w.heap.size) (fun e => by have := (World.ownsRow.lt hO3 _ e).1; omega) (Rq5 A3 n3 c3 p i)
 go_simp
 clear hst hS3 r210 hg10 hb12 hO3
 refine hK9.out _ _ (Or.inl (by rfl)) ?_
 clear hK9 K9
 generalize w10.setRow w.heap.size (Rq5 A3 n3 c3 p i : Array Value) = w11 at *
 try simp only [Act.put, pu]
 refine dnY ?_
 obtain ⟨A9, c9, e9, hI9, _⟩ := hO4.row
 rw [HN3.out.1] at e9
 injection e9 with e9 _ e9c
 subst e9 e9c
 have hI11 := hide hI9.its
 clear hI9
 have hR17 := hide (range_of r111 0 (Rq5 A3 n3 c3 p i) rfl)
 go_wp2_with (with_reducible refine wpList_load_mid rfl 143 (.tmp 1) rfl w.heap.size 0 rfl _ _ hR17.out underlying143 rfl (by kernel_rfl) ?_)
 refine (put_of (Dg.cutC l i K) A3 n3 c3 HN3.out.1 (by have := HN3.out.2; omega) p (i : Int) (fun x hx => HW.out x (by
  unfold Dg.cutC at hx
  rcases List.mem_append.1 hx with h | h
  ·exact List.mem_of_mem_take h
  ·exact List.mem_of_mem_drop h)) HCV.out ({ y with parent := p.parent } :: R) m g cap sp HLM.out.1 hm0 (by have := HN3.out.2; omega) HCE.out w11 hI11.out hg11).mono ?_
 rintro e w12 ⟨v4, rfl, hO5, hb14⟩
 clear hR17
 obtain ⟨A5, c5, hv5, _, _⟩ := hO5.row
 obtain ⟨m', hm'⟩ : ∃ m', (Dg.putP (Dg.cutC l i K) p ({ y with parent := p.parent } :: R)).length = m' := ⟨_, rfl⟩
 rw [hm'] at hv5
 clear hm'
 subst hv5
 have hl11 := lt_of_block r211
 have r212 := iNext r211 hb14
 have hb15 := bnext hb13 hb14
 have hst := store_part (ty := 24) w12 (w.heap.size + 1) 0 Rq3 (.agg #[.slice A5 m' c5]) #[.slice A5 m' c5] r212 infoCode1 (Nat.le_refl _) (one_code _ _ _) rfl
 have r25 := setRow_heap w12 (w.heap.size + 1) _ #[.slice A5 m' c5] _ _ r212
 have hb16 := below_setRow hb15 (by omega) (g := w.heap.size + 1) #[.slice A5 m' c5]
 have HO2 := hide (own_other hO5 (g := w.heap.size + 1) (fun e => by have := (World.ownsRow.lt hO5 _ e).1; omega) #[.slice A5 m' c5])
 clear hO5 hb14 hb15 r212 r211 hb13 hI11 hO4 hg11 r111
 go_wp2
 rw [HR.out] at HO2
 refine bodyPost_ret (results_c8 results66 _ _ (w.heap.size + 1) 24 #[.slice A5 m' c5] (0, 0) _ rfl r25 underlying24 (by kernel_rfl)) rfl (ApR.own rfl HO2.out (by omega) hb16)
attribute [-go_sem] Instr.storeAt in
theorem move_u (l : List Dg.It) (b off : Nat) (n c : Nat) (hl : l.length = n) (hn : n ≤ 1048576) (p : Dg.Pt) (i : Nat) (hi : i < n) (hnc : n ≤ c) (hv : Dg.validC l = true) (y : Dg.It) (hy : l[i]? = some y) (K : Nat) (hK : Dg.belowN l p.id = K) (hle : i + (1 + K) ≤ n) (hex : Dg.existsP l p = true) (hcv : Dg.validC (Dg.cutC l i K) = true) (hce : Dg.existsP (Dg.cutC l i K) p = true) (h1 : (p.parent.toList == p.id.toList) = false) (h2 : (p.after.toList == p.id.toList) = false) (h3 : p.parent.toList.isEmpty = false) (hw : ∀ x ∈ l, ItW x) (hu : underC l p.parent p.id = false) (w : World) (hI : Its w w.heap.size (some ⟨b, off, none⟩) l) :
  Calls Tryz.prog 66 #[.agg (Rq6 b off n c p i)] w (ApR (Dg.putP (Dg.cutC l i K) p ({ y with parent := p.parent } :: (l.drop (i + 1)).take K), 0) w) := by
 obtain ⟨r1, r2, hb, hs⟩ := iAlloc2 w (.cells (Rq6 b off n c p i) 143) (.cells Rq3 24)
 have HI := hide (hI.keep hb); have HL := hide hl; have HX := hide hex
 have hmx := hmxQ
 have HV := hide hv; have HY := hide hy; have HK := hide hK; have HCV := hide hcv; have HCE := hide hce; have HLE := hide hle
 clear hv hy hK hcv hce hle
 have HW := hide hw; have HU := hide hu
 clear hw hu
 have hRG := hide (range_of r1 1 (Rq0 p) rfl)
 clear hI hl hex
 go_enter func66, ntmps66
 go_upto_region 1 with (fail)
 have hsz : w.heap.size + 2 ≤ ((w.alloc (.cells (Rq6 b off n c p i) 143)).alloc (.cells Rq3 24)).heap.size := by omega
 clear hs
 generalize (w.alloc (.cells (Rq6 b off n c p i) 143)).alloc (.cells Rq3 24) = W1 at *
 have hst := store_new (ty := 53) (T := 53) W1 Rq2 (Rq0 p) (by kernel_rfl) rfl (all_oneCell_toArray (ptL.one p))
 go_upto_region 2 with (with_reducible refine wpList_load_mid rfl 53 (.tmp 7) rfl w.heap.size 1 rfl _ _ hRG.out underlying53 rfl (by kernel_rfl) ?_)
 clear hst hRG
 have r4 := heap_alloc_new W1 (.cells (Rq0 p) 53)
 have hbn := nwB W1 (.cells (Rq0 p) 53)
 have r12 := iNext r1 hbn
 have r22 := iNext r2 hbn
 have HI2 := hide (HI.out.keep hbn)
 have hb3 := bnext hb hbn
 obtain ⟨b4, hb4⟩ : ∃ b4, b4 = W1.heap.size := ⟨_, rfl⟩
 have HB4 := hide hb4
 rw [← hb4] at r4 hsz ⊢
 clear hbn hb r1 r2 HI hb4
 generalize W1.alloc (.cells (Rq0 p) 53) = w2 at *
 clear HB4
 have hR17 := hide (range_of r12 0 (Rq6 b off n c p i) rfl)
 go_wp2_with (with_reducible refine wpList_load_mid rfl 143 (.tmp 1) rfl w.heap.size 0 rfl _ _ hR17.out underlying143 rfl (by kernel_rfl) ?_)
 refine (exists_of l (some ⟨b, off, none⟩) n c HL.out hn p (i : Int) w2 HI2.out true HX.out).mono ?_
 rintro e w3 ⟨rfl, hbq⟩
 clear hR17
 have r13 := iNext r12 hbq
 have r23 := iNext r22 hbq
 have r43 := iNext r4 hbq
 have HI3 := hide (HI2.out.keep hbq)
 have hb5 := bnext hb3 hbq
 clear hbq hb3 r12 r22 r4 HI2
 have hcs := jC15 r43
 have k1 := hcs.2.1; have k2 := hcs.2.2.1; have k3 := hcs.2.2.2.1
 clear hcs
 have c0 := (jC17 r13).1
 go_wp2_with fail
 clear c0 k1 k2 k3
 refine (Code.under_of l (some ⟨b, off, none⟩) n c HL.out HW.out hn p.parent p.id w3 HI3.out false HU.out).mono ?_
 rintro e w4 ⟨rfl, hbq⟩
 have r14 := iNext r13 hbq
 have r24 := iNext r23 hbq
 have r44 := iNext r43 hbq
 have HI4 := hide (HI3.out.keep hbq)
 have hb6 := bnext hb5 hbq
 clear hbq hb5 r13 r23 r43 HI3
 go_upto_region 4 with (fail)
 have hR17 := hide (range_of r14 0 (Rq6 b off n c p i) rfl)
 have k1 := (jC15 r44).2.1
 go_wp2_with (with_reducible refine wpList_load_mid rfl 143 (.tmp 1) rfl w.heap.size 0 rfl _ _ hR17.out underlying143 rfl (by kernel_rfl) ?_)
 refine (size_of l (some ⟨b, off, none⟩) n c HL.out hn p (i : Int) HW.out HV.out p.id w4 HI4.out K HK.out).mono ?_
 rintro e w5 ⟨rfl, hbq⟩
 clear hR17 k1
 have r15 := iNext r14 hbq
 have r25 := iNext r24 hbq
 have r45 := iNext r44 hbq
 have HI5 := hide (HI4.out.keep hbq)
 have hb7 := bnext hb6 hbq
 clear hbq hb6 r14 r24 r44 HI4
 obtain ⟨m, hm⟩ : ∃ m, m = 1 + K := ⟨_, rfl⟩
 rw [← hm]
 have hm0 : 0 < m := by omega
 have hmn : i + m ≤ n := by have := HLE.out; omega
 have HM := hide hm
 clear hm
 have hcs := jC17 r15
 have c0 := hcs.1; have c16 := hcs.2.2.2.2.2.2.2.2.2.2.2.2.2.2.2.2
 clear hcs
 have j0 : (0 : Int) ≤ (i : Int) := by omega
 have j1 : (i : Int) + (m : Int) ≤ (n : Int) := by omega
 have j2 : (i : Int) + (m : Int) ≤ (c : Int) := by omega
 have j3 : ¬ (c = i) := by omega
 have j4 : ((i : Int) + (m : Int)).toNat = i + m := by omega
 have j5 : i + m - i = m := by omega
 have j6 : i + m ≤ c := by omega
 have j7 : i ≤ i + m := by omega
 go_wp2_with fail
 clear c0 c16 j1 j2 j3 j4 j5 j6 j7
 have hlm : ((l.drop i).take m).length = m := by rw [List.length_take, List.length_drop, HL.out]; omega
 refine (cloneI_any (some ⟨b, off + i * 7, none⟩) m (c - i) ((l.drop i).take m) w5 hlm (by omega) (HI5.out.sub i m)).mono ?_
 rintro e w6 ⟨v1, rfl, hO, hbq⟩
 obtain ⟨hil, hyi⟩ := List.getElem?_eq_some_iff.1 HY.out
 have hsub : (l.drop i).take m = y :: (l.drop (i + 1)).take K := by rw [HM.out, sub_cons hil, hyi]
 rw [hsub] at hO hlm
 clear hsub hil hyi
 obtain ⟨R, hR⟩ : ∃ R, R = (l.drop (i + 1)).take K := ⟨_, rfl⟩
 rw [← hR] at hO hlm
 have HR := hide hR
 clear hR
 obtain ⟨g, cap, sp, hv1, hBg, hgl, hg, _, _, _⟩ := hO.form (by rw [hlm]; exact hm0)
 rw [hlm] at hv1
 subst hv1
 have r16 := iNext r15 hbq
 have r26 := iNext r25 hbq
 have r46 := iNext r45 hbq
 have HI6 := hide (HI5.out.keep hbq)
 have hb8 := bnext hb7 hbq
 have hl1 := lt_of_block r15
 have hl2 := lt_of_block r25
 have hl4 := lt_of_block r45
 have hflat : 7 ≤ (iLay.flat (y :: R) ++ sp).length := by
  rw [List.length_append, iLay.flat_len, List.length_cons]
  show 7 ≤ (R.length + 1) * 7 + _
  omega
 have hst := store_part (ty := 9) w6 g 2 (iLay.flat (y :: R) ++ sp).toArray (.string p.parent) (iLay.flat ({ y with parent := p.parent } :: R) ++ sp).toArray hg infoStr1 (by show 2 + 1 ≤ (iLay.flat (y :: R) ++ sp).length; omega) (one_str _) rfl
 have hg7 := setRow_heap w6 g _ (iLay.flat ({ y with parent := p.parent } :: R) ++ sp).toArray _ _ hg
 have r17 := (setRow_other w6 g (w.heap.size) (iLay.flat ({ y with parent := p.parent } :: R) ++ sp).toArray (by omega)).trans r16
 have r27 := (setRow_other w6 g (w.heap.size + 1) (iLay.flat ({ y with parent := p.parent } :: R) ++ sp).toArray (by omega)).trans r26
 have HI7 := hide (its_other (HI5.out.below hbq) hBg (iLay.flat ({ y with parent := p.parent } :: R) ++ sp).toArray)
 have hb9 := below_setRow hb8 (by omega) (g := g) (iLay.flat ({ y with parent := p.parent } :: R) ++ sp).toArray
 have hs5 : w5.heap.size ≤ w6.heap.size := hbq.size
 have HLM := hide (And.intro hlm hflat)
 have k2 := (jC15 r46).2.2.1
 clear hO hbq r15 r25 r45 r16 r26 r46 HI5 HI6 hb7 hb8 hg hl4 hlm hflat
 have j8 : (0 : Int) < (m : Int) := by omega
 go_upto_region 7 with (fail)
 clear hst k2 j8
 have HI8 := hide (HI7.out.more (B' := (w6.setRow g (iLay.flat ({ y with parent := p.parent } :: R) ++ sp).toArray).heap.size) (by simp [World.setRow]; omega))
 have hgl7 := lt_of_block hg7
 clear HI7
 generalize w6.setRow g (iLay.flat ({ y with parent := p.parent } :: R) ++ sp).toArray = w7 at *
 refine wp_region_noPanic ?_
 refine wp_region_L (fun X => X.heap[w.heap.size]? = some (.cells (Rq6 b off n c p i) 143 (0, 0))) 13 hmx ?_
 have hdr := (Below.refl w7.heap.size w7).drew
 have hS1 : (fun X : World => X.heap[w.heap.size]? = some (.cells (Rq6 b off n c p i) 143 (0, 0))) w7.drew := iNext r17 hdr
 have r28 := iNext r27 hdr
 have hg8 := iNext hg7 hdr
 have HI9 := hide (HI8.out.keep hdr)
 have hb10 := bnext hb9 hdr
 have hl7 := Nat.lt_of_lt_of_le hgl7 hdr.size
 clear hdr r17 r27 HI8 hb9 hgl7 hg7
 generalize w7.drew = w8 at *
 have hwr : IntKind.i64.wrap ((i : Int) + (m : Int)) = (i : Int) + (m : Int) := by rw [IntKind.wrap_i64]; omega
 refine tU 0 16 hS1 rfl ?_
 refine tU 1 16 hS1 rfl ?_
 refine tU 2 16 hS1 rfl ?_ (by intro wS hS; have hcs := jC17 hS; have c0 := hcs.1; have c16 := hcs.2.2.2.2.2.2.2.2.2.2.2.2.2.2.2.2; clear hcs; go_simp; (try with_reducible rfl))
 refine tU 4 16 hS1 rfl ?_
 refine tU 5 16 hS1 rfl ?_ (by intro wS hS; have hcs := jC17 hS; have c0 := hcs.1; have c16 := hcs.2.2.2.2.2.2.2.2.2.2.2.2.2.2.2.2; clear hcs; go_simp; (try with_reducible rfl))
 refine tU 6 16 hS1 rfl ?_
 refine tU 7 16 hS1 rfl ?_ (by intro wS hS; have hcs := jC17 hS; have c0 := hcs.1; have c16 := hcs.2.2.2.2.2.2.2.2.2.2.2.2.2.2.2.2; clear hcs; go_simp; (try with_reducible rfl))
 refine tU 8 16 hS1 rfl ?_
 refine tU 9 16 hS1 rfl ?_
 refine wpAnyL_one (i := 3) (by decide +kernel) (by rfl) (fun K9 hK9 => ?_)
 rw [if_pos (by rfl)]
 go_simp
 refine (cloneI_any (some ⟨b, off, none⟩) n c l w8 HL.out (by omega) HI9.out).mono ?_
 rintro e w9 ⟨v2, rfl, hO2, hbq⟩
 obtain ⟨A1, c1, hv2, _, _⟩ := hO2.row
 have hvh := HL.out
 rw [hvh] at hv2
 clear hvh
 subst hv2
 have hS2 : (fun X : World => X.heap[w.heap.size]? = some (.cells (Rq6 b off n c p i) 143 (0, 0))) w9 := iNext hS1 hbq
 have r29 := iNext r28 hbq
 have hg9 := iNext hg8 hbq
 have hb11 := bnext hb10 hbq
 have hs8 := hbq.size
 refine hK9.out _ _ (Or.inr hS2) ?_
 have hl81 := lt_of_block hS1
 have hl82 := lt_of_block r28
 clear hK9 K9 hS1 r28 hg8 hb10 hbq HI9
 try simp only [Act.put, pu]
 refine wpAnyL_one (i := 10) (by decide +kernel) (by rfl) (fun K9 hK9 => ?_)
 rw [if_pos (by rfl)]
 go_simp
 have hdel := deleteI_any (.slice A1 n c1) l i (i + m) w8.heap.size w9 hO2 (by omega) (by rw [HL.out]; exact hmn) (by rw [HL.out]; omega)
 rw [Int.natCast_add] at hdel
 refine hdel.mono ?_
 rintro e w10 ⟨v3, rfl, hO3, hbq⟩
 clear hdel
 obtain ⟨A3, c3, hv3, _, _⟩ := hO3.row
 have hcut : l.take i ++ l.drop (i + m) = Dg.cutC l i K := by unfold Dg.cutC; rw [HM.out, show i + (1 + K) = i + 1 + K by omega]
 rw [hcut] at hO3 hv3
 clear hcut
 obtain ⟨n3, hn3⟩ : ∃ n3, (Dg.cutC l i K).length = n3 := ⟨_, rfl⟩
 have hn3' : n3 + m = n := by
  rw [← hn3]
  unfold Dg.cutC
  rw [List.length_append, List.length_take, List.length_drop, HL.out, HM.out]
  have := HM.out
  omega
 rw [hn3] at hv3
 subst hv3
 have HN3 := hide (And.intro hn3 hn3')
 clear hn3 hn3'
 have hS3 : (fun X : World => X.heap[w.heap.size]? = some (.cells (Rq6 b off n c p i) 143 (0, 0))) w10 := (hbq.block _ hl81).trans hS2
 have r210 := (hbq.block _ hl82).trans r29
 have hg10 := (hbq.block _ hl7).trans hg9
 have hb12 : Below w.heap.size w w10 := hb11.trans (hbq.mono (by omega))
 refine hK9.out _ _ (Or.inr hS3) ?_
 clear hK9 K9 hS2 r29 hg9 hb11 hbq hO2
 try simp only [Act.put, pu]
 refine wpAnyL_one (i := 11) (by decide +kernel) (by rfl) (fun K9 hK9 => ?_)
 rw [if_pos (by rfl)]
 go_simp
 refine hK9.out _ _ (Or.inr hS3) ?_
 clear hK9 K9
 try simp only [Act.put, pu]
 refine wpAnyL_one (i := 12) (by decide +kernel) (by rfl) (fun K9 hK9 => ?_)
 rw [if_pos (by rfl)]
 go_simp
 refine hK9.out _ _ (Or.inr hS3) ?_
 clear hK9 K9
 try simp only [Act.put, pu]
 refine wpAnyL_one (i := 13) (by decide +kernel) (by rfl) (fun K9 hK9 => ?_)
 rw [if_pos (by rfl)]
 have hst := store_part (ty := 24) w10 w.heap.size 0 (Rq6 b off n c p i) (.agg #[.slice A3 n3 c3]) (Rq5 A3 n3 c3 p i) hS3 infoCode1 (by show 1 ≤ 17; decide) (one_code _ _ _) rfl
 have r111 := setRow_heap w10 w.heap.size _ (Rq5 A3 n3 c3 p i) _ _ hS3
 have r211 := (setRow_other w10 w.heap.size (w.heap.size + 1) (Rq5 A3 n3 c3 p i) (by omega)).trans r210
 have hg11 := (setRow_other w10 w.heap.size g (Rq5 A3 n3 c3 p i) (by omega)).trans hg10
 have hb13 := below_setRow hb12 (Nat.le_refl _) (g := w.heap.size) (Rq5 A3 n3 c3 p i)
 have hO4 := own_other hO3 (g := w.heap.size) (fun e => by have := (World.ownsRow.lt hO3 _ e).1; omega) (Rq5 A3 n3 c3 p i)
 go_simp
 clear hst hS3 r210 hg10 hb12 hO3
 refine hK9.out _ _ (Or.inl (by rfl)) ?_
 clear hK9 K9
 generalize w10.setRow w.heap.size (Rq5 A3 n3 c3 p i : Array Value) = w11 at *
 try simp only [Act.put, pu]
 refine dnY ?_
 obtain ⟨A9, c9, e9, hI9, _⟩ := hO4.row
 rw [HN3.out.1] at e9
 injection e9 with e9 _ e9c
 subst e9 e9c
 have hI11 := hide hI9.its
 clear hI9
 have hR17 := hide (range_of r111 0 (Rq5 A3 n3 c3 p i) rfl)
 go_wp2_with (with_reducible refine wpList_load_mid rfl 143 (.tmp 1) rfl w.heap.size 0 rfl _ _ hR17.out underlying143 rfl (by kernel_rfl) ?_)
 refine (put_of (Dg.cutC l i K) A3 n3 c3 HN3.out.1 (by have := HN3.out.2; omega) p (i : Int) (fun x hx => HW.out x (by
  unfold Dg.cutC at hx
  rcases List.mem_append.1 hx with h | h
  ·exact List.mem_of_mem_take h
  ·exact List.mem_of_mem_drop h)) HCV.out ({ y with parent := p.parent } :: R) m g cap sp HLM.out.1 hm0 (by have := HN3.out.2; omega) HCE.out w11 hI11.out hg11).mono ?_
 rintro e w12 ⟨v4, rfl, hO5, hb14⟩
 clear hR17
 obtain ⟨A5, c5, hv5, _, _⟩ := hO5.row
 obtain ⟨m', hm'⟩ : ∃ m', (Dg.putP (Dg.cutC l i K) p ({ y with parent := p.parent } :: R)).length = m' := ⟨_, rfl⟩
 rw [hm'] at hv5
 clear hm'
 subst hv5
 have hl11 := lt_of_block r211
 have r212 := iNext r211 hb14
 have hb15 := bnext hb13 hb14
 have hst := store_part (ty := 24) w12 (w.heap.size + 1) 0 Rq3 (.agg #[.slice A5 m' c5]) #[.slice A5 m' c5] r212 infoCode1 (Nat.le_refl _) (one_code _ _ _) rfl
 have r25 := setRow_heap w12 (w.heap.size + 1) _ #[.slice A5 m' c5] _ _ r212
 have hb16 := below_setRow hb15 (by omega) (g := w.heap.size + 1) #[.slice A5 m' c5]
 have HO2 := hide (own_other hO5 (g := w.heap.size + 1) (fun e => by have := (World.ownsRow.lt hO5 _ e).1; omega) #[.slice A5 m' c5])
 clear hO5 hb14 hb15 r212 r211 hb13 hI11 hO4 hg11 r111
 go_wp2
 rw [HR.out] at HO2
 refine bodyPost_ret (results_c8 results66 _ _ (w.heap.size + 1) 24 #[.slice A5 m' c5] (0, 0) _ rfl r25 underlying24 (by kernel_rfl)) rfl (ApR.own rfl HO2.out (by omega) hb16)
theorem beq_no {a b : ByteArray} (h : a ≠ b) : (a.toList == b.toList) = false := (Lib.bytes_beq_false_iff a b).2 h
theorem beq_yes {a b : ByteArray} (h : a = b) : (a.toList == b.toList) = true := (Lib.bytes_beq_iff a b).2 h
theorem move_of (l : List Dg.It) (b off : Nat) (n c : Nat) (hl : l.length = n) (hn : n ≤ 1048576) (p : Dg.Pt) (i : Nat) (hi : Dg.idxI l p.id = some i) (hnc : n ≤ c) (hw : ∀ x ∈ l, ItW x) (hv : Dg.validC l = true) (w : World) (hI : Its w w.heap.size (some ⟨b, off, none⟩) l) :
  Calls Tryz.prog 66 #[.agg (Rq6 b off n c p i)] w (ApR (Dg.moveP l p i (l.getD i Dg.zeroI)) w) := by
 obtain ⟨hil, hid⟩ := Dg.idxI_some hi
 unfold Dg.moveP
 cases hex : Dg.existsP l p with
 | false =>
  rw [if_pos (Or.inl rfl)]
  exact move_e l b off n c hl hn p i hex w hI
 | true =>
  by_cases h1 : p.parent = p.id
  ·rw [if_pos (Or.inr (Or.inl h1))]
   exact move_1 l b off n c hl hn p i hex (beq_yes h1) w hI
  by_cases h2 : p.after = p.id
  ·rw [if_pos (Or.inr (Or.inr (Or.inl h2)))]
   exact move_2 l b off n c hl hn p i hex (beq_no h1) (beq_yes h2) w hI
  have hy : l[i]? = some (l.getD i Dg.zeroI) := by rw [List.getD_eq_getElem?_getD, List.getElem?_eq_getElem hil, Option.getD_some]
  have big : (p.parent = Dg.nil8 ∨ (p.parent ≠ Dg.nil8 ∧ underC l p.parent p.id = false)) → Calls Tryz.prog 66 #[.agg (Rq6 b off n c p i)] w (ApR (Dg.putP (Dg.cutC l i (Dg.belowN l p.id)) p ({ l.getD i Dg.zeroI with parent := p.parent } :: (l.drop (i + 1)).take (Dg.belowN l p.id)), 0) w) := fun hc => by
   obtain ⟨t1, _, t3, t4, _⟩ := Dg.tree_at hv hil
   have hcv := Dg.remove_valid hv hil t3 t4 t1
   have hun : p.parent ≠ Dg.nil8 → Dg.underN l p.parent p.id = false := fun hne => by
    rcases hc with h | h
    ·exact absurd h hne
    ·rw [← under_eq hv]; exact h.2
   obtain ⟨_, hce⟩ := Dg.move_place hv hil hid hex h1 h2 hun
   rw [hid] at t1 hcv hce
   rcases hc with h | h
   ·exact move_n l b off n c hl hn p i (by omega) hnc hv _ hy _ rfl (by omega) hex hcv hce (beq_no h1) (beq_no h2) (emp_yes h) hw w hI
   ·exact move_u l b off n c hl hn p i (by omega) hnc hv _ hy _ rfl (by omega) hex hcv hce (beq_no h1) (beq_no h2) (emp_no h.1) hw h.2 w hI
  by_cases h3 : p.parent = Dg.nil8
  ·rw [if_neg (fun h => by
    rcases h with h | h | h | h
    ·cases h
    ·exact h1 h
    ·exact h2 h
    ·exact h.1 h3)]
   exact big (Or.inl h3)
  ·cases hu : Dg.underN l p.parent p.id with
   | true =>
    rw [if_pos (Or.inr (Or.inr (Or.inr ⟨h3, rfl⟩)))]
    exact move_3 l b off n c hl hn p i hex (beq_no h1) (beq_no h2) (emp_no h3) hw (by rw [under_eq hv]; exact hu) w hI
   | false =>
    rw [if_neg (fun h => by
     rcases h with h | h | h | h
     ·cases h
     ·exact h1 h
     ·exact h2 h
     ·cases h.2)]
    exact big (Or.inr ⟨h3, by rw [under_eq hv]; exact hu⟩)
def smallI (x : Dg.It) : Bool := decide (x.id.size ≤ 500) && decide (x.parent.size ≤ 500) && decide (x.number.size ≤ 500) && decide (x.north.size ≤ 500) && decide (x.south.size ≤ 500)
def fewC (l : List Dg.It) (m : Nat) : Bool := decide (l.length ≤ m) && (l.take m).all smallI
theorem smallI_iff (x : Dg.It) : smallI x = true ↔ x.id.size ≤ 500 ∧ x.parent.size ≤ 500 ∧ x.number.size ≤ 500 ∧ x.north.size ≤ 500 ∧ x.south.size ≤ 500 := by
 unfold smallI
 simp only [Bool.and_eq_true, decide_eq_true_eq, and_assoc]
theorem fewC_spec {l : List Dg.It} {m : Nat} (h : fewC l m = true) : l.length ≤ m ∧ ∀ x ∈ l, smallI x = true := by
 unfold fewC at h
 rw [Bool.and_eq_true, decide_eq_true_eq] at h
 refine ⟨h.1, fun x hx => ?_⟩
 rw [List.take_of_length_le h.1, List.all_eq_true] at h
 exact h.2 x hx
theorem fewC_no {l : List Dg.It} {m k : Nat} (hk : k < l.length) (hm : k < m) (h : smallI l[k] = false) : fewC l m = false := by
 unfold fewC
 have : (l.take m).all smallI = false := by
  rw [List.all_eq_false]
  exact ⟨l[k], List.mem_take_iff_getElem.2 ⟨k, by omega, rfl⟩, by rw [h]; exact Bool.false_ne_true⟩
 rw [this, Bool.and_false]
theorem fewC_yes {l : List Dg.It} {m : Nat} (hm : l.length ≤ m) (h : ∀ x ∈ l, smallI x = true) : fewC l m = true := by
 unfold fewC
 rw [decide_eq_true hm, Bool.true_and, List.take_of_length_le hm, List.all_eq_true]
 exact h
theorem fewC_many {l : List Dg.It} {m : Nat} (hm : m < l.length) : fewC l m = false := by
 unfold fewC
 rw [decide_eq_false (by omega), Bool.false_and]
theorem rfew_of (l : List Dg.It) (A : Option Addr) (n c m : Nat) (hl : l.length = n) (hn : n ≤ 9223372036854775807) (hm : m ≤ 1000) (w : World) (hI : Its w w.heap.size A l) (R : Bool) (hR : fewC l m = R) :
  Calls Tryz.prog 5 #[.agg #[.slice A n c], .int .i64 (m : Int)] w fun e w' => e = .returned (.bool R) ∧ Below w.heap.size w w' := by
 have hx1 := nwB w (.cells #[.slice A n c] 24)
 have hrow := heap_alloc_new w (.cells #[.slice A n c] 24)
 have HL := hide hl; have HR := hide hR; have HI := hide hI
 clear hl hR hI
 go_enter func5, ntmps5
 go_wp2
 go_loopw [5] (fun iv wr => ∃ k : Nat, k ≤ n ∧ k ≤ m ∧ iv = .int .i64 (k : Int) ∧ Below w.heap.size w wr ∧ wr.heap[w.heap.size]? = some (.cells #[.slice A n c] 24 (0, 0)) ∧ Hid (∀ x ∈ l.take k, smallI x = true)) (fun iv _ => n - (intOf iv).toNat)
 case atStart => exact ⟨0, by omega, by omega, rfl, hx1, hrow, fun x hx => by simp at hx⟩
 case round =>
  obtain ⟨k, hk, hkm, rfl, hb, hr, hall⟩ := hrel
  clear hrow hx1
  have hc := iCells0 hr
  by_cases hlt : k < n
  ·have hkn : (k : Int) < (n : Int) := by omega
   by_cases hlm : k < m
   ·have hkm2 : (k : Int) < (m : Int) := by omega
    have hk0 : (0 : Int) ≤ (k : Int) := by omega
    have hkl : k < l.length := by rw [HL.out]; exact hlt
    have hIr := HI.out.below hb
    obtain ⟨b, off, rfl⟩ := hIr.some hkl
    obtain ⟨x, hx⟩ : ∃ x, l[k] = x := ⟨_, rfl⟩
    obtain ⟨hbl, p0, p1, p2, p3, p4, p5, p6⟩ := hIr.cells hkl x hx
    have HX := hide hx
    clear hx hIr
    have hx2 := nwB wr (.cells (Rq4 x) 51)
    have hrx := heap_alloc_new wr (.cells (Rq4 x) 51)
    have hr2 := iNext hr hx2
    have hb2 := bnext hb hx2
    go_upto_region 5 with (fail)
    generalize wr.alloc (.cells (Rq4 x) 51) = w2 at *
    obtain ⟨c0, c1, c2, c3, c4, c5, c6⟩ := iCells hrx
    clear p0 p1 p2 p3 p4 p5 p6 hc hr hx2 hb
    by_cases s0 : (500 : Int) < (x.id.size : Int)
    ·skip
     have E9 := hide (show false = R by rw [← HR.out]; exact (fewC_no hkl hlm (by rw [HX.out]; cases hs : smallI x with | false => rfl | true => exact absurd ((smallI_iff x).1 hs) (by omega))).symm)
     go_wp2
     go_ret
     exact ⟨ret_bool E9.out, hb2⟩
    by_cases s1 : (500 : Int) < (x.parent.size : Int)
    ·skip
     have E9 := hide (show false = R by rw [← HR.out]; exact (fewC_no hkl hlm (by rw [HX.out]; cases hs : smallI x with | false => rfl | true => exact absurd ((smallI_iff x).1 hs) (by omega))).symm)
     go_wp2
     go_ret
     exact ⟨ret_bool E9.out, hb2⟩
    by_cases s2 : (500 : Int) < (x.number.size : Int)
    ·skip
     have E9 := hide (show false = R by rw [← HR.out]; exact (fewC_no hkl hlm (by rw [HX.out]; cases hs : smallI x with | false => rfl | true => exact absurd ((smallI_iff x).1 hs) (by omega))).symm)
     go_wp2
     go_ret
     exact ⟨ret_bool E9.out, hb2⟩
    by_cases s3 : (500 : Int) < (x.north.size : Int)
    ·skip
     have E9 := hide (show false = R by rw [← HR.out]; exact (fewC_no hkl hlm (by rw [HX.out]; cases hs : smallI x with | false => rfl | true => exact absurd ((smallI_iff x).1 hs) (by omega))).symm)
     go_wp2
     go_ret
     exact ⟨ret_bool E9.out, hb2⟩
    by_cases s4 : (500 : Int) < (x.south.size : Int)
    ·skip
     have E9 := hide (show false = R by rw [← HR.out]; exact (fewC_no hkl hlm (by rw [HX.out]; cases hs : smallI x with | false => rfl | true => exact absurd ((smallI_iff x).1 hs) (by omega))).symm)
     go_wp2
     go_ret
     exact ⟨ret_bool E9.out, hb2⟩
    have HS := hide (show smallI x = true from (smallI_iff x).2 (by omega))
    go_wp2
    go_roundw
    case rel => exact ⟨k + 1, by omega, by omega, by go_num, hb2, hr2, fun y hy => by
     rw [List.take_succ_eq_append_getElem hkl, HX.out] at hy
     rcases List.mem_append.1 hy with h | h
     ·exact hall.out y h
     ·rw [List.mem_singleton.1 h]; exact HS.out⟩
    case measure => simp [intOf]; omega
   ·obtain rfl : k = m := by omega
    have hkm2 : ¬ (k : Int) < (k : Int) := by omega
    have hnn : ¬ (n : Int) ≤ (k : Int) := by omega
    have hf := fewC_many (l := l) (m := k) (by rw [HL.out]; exact hlt)
    have e9 := HR.out
    rw [hf] at e9
    have E9 := hide e9
    clear hf e9
    go_wp2
    go_ret
    exact ⟨ret_bool E9.out, hb⟩
  ·obtain rfl : k = n := by omega
   have hkn : ¬ (k : Int) < (k : Int) := by omega
   have hnn : (k : Int) ≤ (m : Int) := by omega
   have hf := fewC_yes (l := l) (m := m) (by rw [HL.out]; exact hkm) (by have h := hall.out; rw [← HL.out, List.take_length] at h; exact h)
   have e9 := HR.out
   rw [hf] at e9
   have E9 := hide e9
   clear hf e9
   go_wp2
   go_ret
   exact ⟨ret_bool E9.out, hb⟩
theorem bytes_beq (a b : ByteArray) : (a.toList == b.toList) = true ↔ a = b := by
 rw [beq_iff_eq]
 constructor
 ·intro h
  rw [ByteArray.toList_eq, ByteArray.toList_eq] at h
  obtain ⟨⟨x⟩⟩ := a
  obtain ⟨⟨y⟩⟩ := b
  simpa using h
 ·rintro rfl; rfl
theorem it_ext {x y : Dg.It} (h1 : x.kind = y.kind) (h2 : x.id = y.id) (h3 : x.parent = y.parent) (h4 : x.number = y.number) (h5 : x.north = y.north) (h6 : x.south = y.south) (h7 : x.gone = y.gone) : x = y := by
 cases x; cases y; simp_all
def sameI (x y : Dg.It) : Bool := (x.kind == y.kind) && ((x.id.toList == y.id.toList) && ((x.parent.toList == y.parent.toList) && ((x.number.toList == y.number.toList) && ((x.north.toList == y.north.toList) && ((x.south.toList == y.south.toList) && (x.gone == y.gone))))))
theorem sameI_iff (x y : Dg.It) : sameI x y = true ↔ x = y := by
 unfold sameI
 rw [Bool.and_eq_true, Bool.and_eq_true, Bool.and_eq_true, Bool.and_eq_true, Bool.and_eq_true, Bool.and_eq_true, bytes_beq, bytes_beq, bytes_beq, bytes_beq, bytes_beq, beq_iff_eq, beq_iff_eq]
 constructor
 ·rintro ⟨h1, h2, h3, h4, h5, h6, h7⟩
  exact it_ext h1 h2 h3 h4 h5 h6 h7
 ·rintro rfl
  exact ⟨rfl, rfl, rfl, rfl, rfl, rfl, rfl⟩
theorem item_run (w : World) (x y : Dg.It) : (binOp .neq 51 (.agg (Rq4 x)) (.agg (Rq4 y))).run Tryz.prog w = .ok (.bool (!sameI x y)) w := by
 have hS : Tryz.prog.underlying 51 = some (.struct (Tryz.prog.fieldsOf 51)) := by kernel_rfl
 have hp : Tryz.prog.stoodInHeld 51 = false := by kernel_rfl
 rw [run_neq_struct, show (10000 : Nat) = 9999 + 1 from rfl, run_equalIn_agg w 9999 51 _ _ hS hp]
 simp only [Program.fieldsOf, underlying51]
 have u3 := underlying3
 have u4 := underlying4
 have u5 := underlying9
 have a3 := Tryz.isAgg3
 have a4 := Tryz.isAgg4
 have a5 := Tryz.isAgg9
 have z3 := Tryz.sizeOf3
 have z4 := Tryz.sizeOf4
 have z5 := Tryz.sizeOf9
 go_simp
 unfold sameI
 by_cases h1 : x.kind = y.kind <;> by_cases h2 : x.id.toList = y.id.toList <;> by_cases h3 : x.parent.toList = y.parent.toList <;> by_cases h4 : x.number.toList = y.number.toList <;> by_cases h5 : x.north.toList = y.north.toList <;> by_cases h6 : x.south.toList = y.south.toList <;> by_cases h7 : x.gone = y.gone <;> simp [h1, h2, h3, h4, h5, h6, h7]
theorem pt_ext {x y : Dg.Pt} (h1 : x.kind = y.kind) (h2 : x.id = y.id) (h3 : x.parent = y.parent) (h4 : x.after = y.after) (h5 : x.number = y.number) (h6 : x.item = y.item) (h7 : x.lang = y.lang) (h8 : x.src = y.src) (h9 : x.dst = y.dst) : x = y := by
 cases x; cases y; simp_all
def sameP (p q : Dg.Pt) : Bool := (p.kind == q.kind) && ((p.id.toList == q.id.toList) && ((p.parent.toList == q.parent.toList) && ((p.after.toList == q.after.toList) && ((p.number.toList == q.number.toList) && (sameI p.item q.item && ((p.lang == q.lang) && ((p.src.toList == q.src.toList) && ((p.dst.toList == q.dst.toList)))))))))
theorem sameP_iff (p q : Dg.Pt) : sameP p q = true ↔ p = q := by
 unfold sameP
 rw [Bool.and_eq_true, Bool.and_eq_true, Bool.and_eq_true, Bool.and_eq_true, Bool.and_eq_true, Bool.and_eq_true, Bool.and_eq_true, Bool.and_eq_true, bytes_beq, bytes_beq, bytes_beq, bytes_beq, bytes_beq, bytes_beq, beq_iff_eq, beq_iff_eq, sameI_iff]
 constructor
 ·rintro ⟨h1, h2, h3, h4, h5, h6, h7, h8, h9⟩
  exact pt_ext h1 h2 h3 h4 h5 h6 h7 h8 h9
 ·rintro rfl
  exact ⟨rfl, rfl, rfl, rfl, rfl, rfl, rfl, rfl, rfl⟩
theorem sameP_dec (p q : Dg.Pt) : sameP p q = decide (p = q) := by
 rw [Bool.eq_iff_iff, sameP_iff, decide_eq_true_iff]
theorem item_eqIn (d : Nat) (w : World) (x y : Dg.It) : (Op.equalIn (d + 2) 51 (.agg (Rq4 x)) (.agg (Rq4 y))).run Tryz.prog w = .ok (sameI x y) w := by
 have hS : Tryz.prog.underlying 51 = some (.struct (Tryz.prog.fieldsOf 51)) := by kernel_rfl
 have hp : Tryz.prog.stoodInHeld 51 = false := by kernel_rfl
 rw [run_equalIn_struct w (d + 1) 51 _ _ hS hp]
 simp only [Program.fieldsOf, underlying51]
 have u3 := underlying3
 have u4 := underlying4
 have u5 := underlying9
 have a3 := Tryz.isAgg3
 have a4 := Tryz.isAgg4
 have a5 := Tryz.isAgg9
 have z3 := Tryz.sizeOf3
 have z4 := Tryz.sizeOf4
 have z5 := Tryz.sizeOf9
 go_simp
 unfold sameI
 by_cases h1 : x.kind = y.kind <;> by_cases h2 : x.id.toList = y.id.toList <;> by_cases h3 : x.parent.toList = y.parent.toList <;> by_cases h4 : x.number.toList = y.number.toList <;> by_cases h5 : x.north.toList = y.north.toList <;> by_cases h6 : x.south.toList = y.south.toList <;> by_cases h7 : x.gone = y.gone <;> simp [h1, h2, h3, h4, h5, h6, h7]
theorem patch_run (w : World) (p q : Dg.Pt) : (binOp .eql 53 (.agg (Rq0 p)) (.agg (Rq0 q))).run Tryz.prog w = .ok (.bool (sameP p q)) w := by
 have hS : Tryz.prog.underlying 53 = some (.struct (Tryz.prog.fieldsOf 53)) := by kernel_rfl
 have hp : Tryz.prog.stoodInHeld 53 = false := by kernel_rfl
 rw [run_eql_struct, show (10000 : Nat) = 9999 + 1 from rfl, run_equalIn_agg w 9999 53 _ _ hS hp]
 simp only [Program.fieldsOf, underlying53]
 have u3 := underlying3
 have u5 := underlying9
 have a3 := Tryz.isAgg3
 have a5 := Tryz.isAgg9
 have a7 := Tryz.isAgg51
 have z3 := Tryz.sizeOf3
 have z5 := Tryz.sizeOf9
 have z7 := Tryz.sizeOf51
 have hI := fun (w : World) => item_eqIn 9997 w p.item q.item
 go_simp
 unfold sameP
 by_cases h1 : p.kind = q.kind
 case neg => simp [h1]
 by_cases h2 : p.id.toList = q.id.toList
 case neg => simp [h1, h2]
 by_cases h3 : p.parent.toList = q.parent.toList
 case neg => simp [h1, h2, h3]
 by_cases h4 : p.after.toList = q.after.toList
 case neg => simp [h1, h2, h3, h4]
 by_cases h5 : p.number.toList = q.number.toList
 case neg => simp [h1, h2, h3, h4, h5]
 by_cases h6 : sameI p.item q.item = true
 case neg => simp [h1, h2, h3, h4, h5, h6]
 by_cases h7 : p.lang = q.lang
 case neg => simp [h1, h2, h3, h4, h5, h6, h7]
 by_cases h8 : p.src.toList = q.src.toList
 case neg => simp [h1, h2, h3, h4, h5, h6, h7, h8]
 by_cases h9 : p.dst.toList = q.dst.toList
 case neg => simp [h1, h2, h3, h4, h5, h6, h7, h8, h9]
 simp [h1, h2, h3, h4, h5, h6, h7, h8, h9]
namespace Dg
structure Sp where
 seat : Int
 count : Int
deriving DecidableEq
structure Cl where
 id : Sp
 after : Sp
 patch : Pt
 gone : Bool
deriving DecidableEq
def Sp0 : Sp := ⟨0, 0⟩
def spOk (s : Sp) : Bool := decide (0 ≤ s.seat ∧ s.seat < 200 ∧ 1 ≤ s.count ∧ s.count ≤ 1000000)
def clOk (c : Cl) : Bool := (decide (c.after = Sp0) || (spOk c.after && decide (c.after.count < c.id.count))) && spOk c.id
theorem spOk_count {s : Sp} (h : spOk s = true) : 1 ≤ s.count ∧ s.count ≤ 1000000 := by
 unfold spOk at h
 rw [decide_eq_true_eq] at h
 exact h.2.2
theorem clOk_id {c : Cl} (h : clOk c = true) : spOk c.id = true := by
 unfold clOk at h
 rw [Bool.and_eq_true] at h
 exact h.2
theorem clOk_up {c : Cl} (h : clOk c = true) : c.after = Sp0 ∨ c.after.count < c.id.count := by
 unfold clOk at h
 rw [Bool.and_eq_true, Bool.or_eq_true, Bool.and_eq_true, decide_eq_true_eq, decide_eq_true_eq] at h
 exact h.1.imp id (·.2)
def leC (a b : Cl) : Bool := decide (b.id.count < a.id.count ∨ (b.id.count = a.id.count ∧ b.id.seat ≤ a.id.seat))
theorem leC_trans (a b c : Cl) (h1 : leC a b = true) (h2 : leC b c = true) : leC a c = true := by
 unfold leC at *
 rw [decide_eq_true_eq] at *
 omega
theorem leC_total (a b : Cl) : (leC a b || leC b a) = true := by
 unfold leC
 rw [Bool.or_eq_true, decide_eq_true_eq, decide_eq_true_eq]
 omega
theorem leC_anti {a b : Cl} (h1 : leC a b = true) (h2 : leC b a = true) : a.id = b.id := by
 unfold leC at *
 rw [decide_eq_true_eq] at *
 have e1 : a.id.count = b.id.count := by omega
 have e2 : a.id.seat = b.id.seat := by omega
 cases ha : a.id with
 | mk s c =>
  cases hb : b.id with
  | mk s' c' =>
   rw [ha, hb] at e1 e2
   cases e1
   cases e2
   rfl
def kidsC (pg : List Cl) (d : Sp) : List Cl := (pg.filter fun c => decide (c.after = d)).mergeSort leC
theorem mem_kidsC {pg : List Cl} {d : Sp} {c : Cl} : c ∈ kidsC pg d ↔ c ∈ pg ∧ c.after = d := by
 unfold kidsC
 rw [(List.mergeSort_perm _ _).mem_iff, List.mem_filter, decide_eq_true_eq]
def NdC (pg : List Cl) : Prop := (pg.map Cl.id).Nodup
theorem NdC.inj {pg : List Cl} (h : NdC pg) {a b : Cl} (ha : a ∈ pg) (hb : b ∈ pg) (e : a.id = b.id) : a = b := by
 induction pg with
 | nil => cases ha
 | cons x r ih =>
  unfold NdC at h
  rw [List.map_cons, List.nodup_cons] at h
  rcases List.mem_cons.1 ha with e1 | h1
  ·rcases List.mem_cons.1 hb with e2 | h2
   ·rw [e1, e2]
   ·exact absurd (List.mem_map.2 ⟨b, h2, by rw [← e, e1]⟩) h.1
  ·rcases List.mem_cons.1 hb with e2 | h2
   ·exact absurd (List.mem_map.2 ⟨a, h1, by rw [e, e2]⟩) h.1
   ·exact ih h.2 h1 h2
theorem NdC.nodup {pg : List Cl} (h : NdC pg) : pg.Nodup := (List.pairwise_map.1 h).imp fun h e => h (congrArg Cl.id e)
theorem kidsC_perm {pg pg' : List Cl} (hn : NdC pg) (hp : pg.Perm pg') (d : Sp) : kidsC pg d = kidsC pg' d := by
 unfold kidsC
 refine List.Perm.eq_of_pairwise (le := fun a b => leC a b = true) (fun a b ha hb h1 h2 => ?_) (List.pairwise_mergeSort leC_trans leC_total _) (List.pairwise_mergeSort leC_trans leC_total _) (((List.mergeSort_perm _ _).trans (hp.filter _)).trans (List.mergeSort_perm _ _).symm)
 have ha' := (List.mem_filter.1 ((List.mergeSort_perm _ _).mem_iff.1 ha)).1
 have hb' := hp.mem_iff.2 (List.mem_filter.1 ((List.mergeSort_perm _ _).mem_iff.1 hb)).1
 exact hn.inj ha' hb' (leC_anti h1 h2)
def walkC (pg : List Cl) : Nat → Sp → List Cl
 | 0, _ => []
 | f + 1, d => (kidsC pg d).flatMap fun c => c :: walkC pg f c.id
theorem walkC_perm {pg pg' : List Cl} (hn : NdC pg) (hp : pg.Perm pg') : ∀ (f : Nat) (d : Sp), walkC pg f d = walkC pg' f d
 | 0, _ => rfl
 | f + 1, d => by
  unfold walkC
  rw [kidsC_perm hn hp d]
  congr 1
  funext c
  rw [walkC_perm hn hp f c.id]
def listC (pg : List Cl) : List Cl := walkC pg 1000001 Sp0
theorem listC_perm {pg pg' : List Cl} (hn : NdC pg) (hp : pg.Perm pg') : listC pg = listC pg' := walkC_perm hn hp _ _
theorem walkC_mem {pg : List Cl} : ∀ {f : Nat} {d : Sp} {c : Cl}, c ∈ walkC pg f d → c ∈ pg
 | 0, _, _, h => by cases h
 | f + 1, d, c, h => by
  unfold walkC at h
  obtain ⟨x, hx, hc⟩ := List.mem_flatMap.1 h
  rcases List.mem_cons.1 hc with rfl | hc
  ·exact (mem_kidsC.1 hx).1
  ·exact walkC_mem hc
inductive RchC (pg : List Cl) : Nat → Sp → Cl → Prop
 | one {c : Cl} (hc : c ∈ pg) : RchC pg 1 c.after c
 | more {k : Nat} {p c : Cl} (hp : p ∈ pg) (h : RchC pg k p.id c) : RchC pg (k + 1) p.after c
theorem RchC.snoc {pg : List Cl} {k : Nat} {d : Sp} {p c : Cl} (h : RchC pg k d p) (hc : c ∈ pg) (e : c.after = p.id) : RchC pg (k + 1) d c := by
 induction h with
 | one hp => exact .more hp (e ▸ .one hc)
 | more hp _ ih => exact .more hp (ih e)
theorem RchC.walk {pg : List Cl} {k : Nat} {d : Sp} {c : Cl} (h : RchC pg k d c) : ∀ {f : Nat}, k ≤ f → c ∈ walkC pg f d := by
 induction h with
 | one hc =>
  intro f hf
  cases f with
  | zero => omega
  | succ f =>
   unfold walkC
   exact List.mem_flatMap.2 ⟨_, mem_kidsC.2 ⟨hc, rfl⟩, List.mem_cons_self ..⟩
 | more hp _ ih =>
  intro f hf
  cases f with
  | zero => omega
  | succ f =>
   unfold walkC
   exact List.mem_flatMap.2 ⟨_, mem_kidsC.2 ⟨hp, rfl⟩, List.mem_cons_of_mem _ (ih (by omega))⟩
def ClosedC (pg : List Cl) : Prop := ∀ c ∈ pg, c.after = Sp0 ∨ ∃ p ∈ pg, p.id = c.after
theorem rch_all {pg : List Cl} (hc : ClosedC pg) (ho : ∀ c ∈ pg, clOk c = true) : ∀ (m : Nat) (c : Cl), c ∈ pg → c.id.count ≤ (m : Int) → ∃ k, k ≤ m ∧ RchC pg k Sp0 c
 | 0, c, h, hm => by
  have := (spOk_count (clOk_id (ho c h))).1
  omega
 | m + 1, c, h, hm => by
  rcases hc c h with e | ⟨p, hp, e⟩
  ·exact ⟨1, by omega, e ▸ .one h⟩
  ·have h1 := (spOk_count (clOk_id (ho p hp))).1
   have h2 : c.after.count < c.id.count := by
    rcases clOk_up (ho c h) with e2 | h2
    ·exfalso
     rw [e, e2] at h1
     exact absurd h1 (by decide)
    ·exact h2
   obtain ⟨k, hk, hr⟩ := rch_all hc ho m p hp (by rw [e]; omega)
   exact ⟨k + 1, by omega, hr.snoc h e.symm⟩
theorem listC_all {pg : List Cl} (hc : ClosedC pg) (ho : ∀ c ∈ pg, clOk c = true) {c : Cl} (h : c ∈ pg) : c ∈ listC pg := by
 have h1 := (spOk_count (clOk_id (ho c h))).2
 obtain ⟨k, hk, hr⟩ := rch_all hc ho 1000001 c h (by omega)
 exact hr.walk hk
def FirstC (d : Sp) (l : List Cl) : Prop := ∀ l1 c l2, l = l1 ++ c :: l2 → c.after = d ∨ ∃ p ∈ l1, p.id = c.after
theorem FirstC.cons {d : Sp} {c : Cl} {w r : List Cl} (hc : c.after = d) (hw : FirstC c.id w) (hr : FirstC d r) : FirstC d (c :: (w ++ r)) := by
 intro l1 x l2 e
 cases l1 with
 | nil =>
  injection e with e _
  exact Or.inl (e ▸ hc)
 | cons y l1 =>
  injection e with e1 e2
  subst e1
  rcases List.append_eq_append_iff.1 e2 with ⟨a, h1, h2⟩ | ⟨a, h1, h2⟩
  ·subst h1
   rcases hr a x l2 h2 with h | ⟨p, hp, h⟩
   ·exact Or.inl h
   ·exact Or.inr ⟨p, List.mem_cons_of_mem _ (List.mem_append.2 (Or.inr hp)), h⟩
  ·cases a with
   | nil =>
    rw [List.nil_append] at h2
    rcases hr [] x l2 h2.symm with h | ⟨p, hp, h⟩
    ·exact Or.inl h
    ·cases hp
   | cons z a =>
    injection h2 with h2 h3
    subst h2
    rcases hw l1 x a h1 with h | ⟨p, hp, h⟩
    ·exact Or.inr ⟨c, List.mem_cons_self .., h.symm⟩
    ·exact Or.inr ⟨p, List.mem_cons_of_mem _ hp, h⟩
theorem walkC_first {pg : List Cl} : ∀ (f : Nat) (d : Sp), FirstC d (walkC pg f d)
 | 0, _ => fun l1 c l2 e => by simp [walkC] at e
 | f + 1, d => by
  unfold walkC
  have : ∀ ks : List Cl, (∀ c ∈ ks, c.after = d) → FirstC d (ks.flatMap fun c => c :: walkC pg f c.id) := by
   intro ks
   induction ks with
   | nil => intro _ l1 c l2 e; simp at e
   | cons c ks ih =>
    intro h
    rw [List.flatMap_cons, List.cons_append]
    exact FirstC.cons (h c (List.mem_cons_self ..)) (walkC_first f c.id) (ih fun x hx => h x (List.mem_cons_of_mem _ hx))
  exact this _ fun c hc => (mem_kidsC.1 hc).2
theorem listC_first (pg : List Cl) : FirstC Sp0 (listC pg) := walkC_first _ _
end Dg
namespace Dg
def getC (pg : List Cl) (d : Sp) : Option Cl := pg.find? fun c => decide (c.id = d)
def openN (pg : List Cl) : Nat := pg.countP fun c => !c.gone
def setC (pg : List Cl) (c : Cl) : List Cl := pg.map fun x => if x.id = c.id then c else x
def putC (pg : List Cl) (c : Cl) : List Cl × Int :=
 if clOk c = false then (pg, 1)
 else match getC pg c.id with
  | some o => if o.after = c.after ∧ o.patch = c.patch then (setC pg { o with gone := o.gone || c.gone }, 0) else (pg, 9)
  | none => if getC pg c.after = none ∧ c.after ≠ Sp0 then (pg, 11) else if c.gone = false ∧ 64 ≤ openN pg then (pg, 27) else (pg ++ [c], 0)
theorem getC_some {pg : List Cl} {d : Sp} {c : Cl} (h : getC pg d = some c) : c ∈ pg ∧ c.id = d := by
 unfold getC at h
 exact ⟨List.mem_of_find?_eq_some h, by simpa using List.find?_some h⟩
theorem getC_none {pg : List Cl} {d : Sp} (h : getC pg d = none) : ∀ c ∈ pg, c.id ≠ d := fun c hc e => by
 unfold getC at h
 have := List.find?_eq_none.1 h c hc
 simp [e] at this
theorem getC_at {pg : List Cl} (hn : NdC pg) {c : Cl} (h : c ∈ pg) : getC pg c.id = some c := by
 cases hq : getC pg c.id with
 | none => exact absurd rfl (getC_none hq c h)
 | some x =>
  obtain ⟨h1, h2⟩ := getC_some hq
  rw [hn.inj h1 h h2]
theorem setC_ids (pg : List Cl) (c : Cl) : (setC pg c).map Cl.id = pg.map Cl.id := by
 unfold setC
 rw [List.map_map]
 refine List.map_congr_left fun x _ => ?_
 show (if x.id = c.id then c else x).id = x.id
 split
 ·rename_i h; exact h.symm
 ·rfl
theorem mem_setC {pg : List Cl} {c y : Cl} (h : y ∈ setC pg c) : y = c ∨ (y ∈ pg ∧ y.id ≠ c.id) := by
 unfold setC at h
 obtain ⟨x, hx, e⟩ := List.mem_map.1 h
 split at e
 ·exact Or.inl e.symm
 ·rename_i hne
  subst e
  exact Or.inr ⟨hx, hne⟩
def OrgC (U : List Cl) (c : Cl) : Prop := ∃ u ∈ U, u.id = c.id ∧ u.after = c.after ∧ u.patch = c.patch ∧ (c.gone = true → u.gone = true)
structure PgOk (U pg : List Cl) : Prop where
 nd : NdC pg
 org : ∀ c ∈ pg, OrgC U c
 closed : ClosedC pg
structure UniC (U : List Cl) : Prop where
 nd : NdC U
 ok : ∀ c ∈ U, clOk c = true
 few : U.length < 64
def HasC (pg : List Cl) (c : Cl) : Prop := ∃ y ∈ pg, y.id = c.id ∧ (c.gone = true → y.gone = true)
def DomC (pg pg' : List Cl) : Prop := ∀ c ∈ pg, HasC pg' c
theorem DomC.refl (pg : List Cl) : DomC pg pg := fun c hc => ⟨c, hc, rfl, id⟩
theorem HasC.dom {pg pg' : List Cl} {c : Cl} (h : HasC pg c) (hd : DomC pg pg') : HasC pg' c := by
 obtain ⟨y, hy, e, hg⟩ := h
 obtain ⟨z, hz, e2, hg2⟩ := hd y hy
 exact ⟨z, hz, e2.trans e, fun h => hg2 (hg h)⟩
theorem DomC.trans {a b c : List Cl} (h1 : DomC a b) (h2 : DomC b c) : DomC a c := fun x hx => (h1 x hx).dom h2
theorem OrgC.ok {U : List Cl} (hU : UniC U) {c : Cl} (h : OrgC U c) : clOk c = true := by
 obtain ⟨u, hu, e1, e2, _, _⟩ := h
 have := hU.ok u hu
 unfold clOk at this ⊢
 rw [← e1, ← e2]
 exact this
theorem nodup_len2 {α : Type} [DecidableEq α] : ∀ (a b : List α), a.Nodup → (∀ x ∈ a, x ∈ b) → a.length ≤ b.length
 | [], _, _, _ => Nat.zero_le _
 | x :: a, b, hn, h => by
  obtain ⟨h1, h2⟩ := List.nodup_cons.1 hn
  have hx := h x (List.mem_cons_self ..)
  have := nodup_len2 a (b.erase x) h2 fun y hy => (List.mem_erase_of_ne (fun (e : y = x) => h1 (by rw [← e]; exact hy))).2 (h y (List.mem_cons_of_mem _ hy))
  rw [List.length_erase_of_mem hx] at this
  have := List.length_pos_of_mem hx
  rw [List.length_cons]
  omega
theorem PgOk.len {U pg : List Cl} (h : PgOk U pg) : pg.length ≤ U.length := by
 have h1 := nodup_len2 (pg.map Cl.id) (U.map Cl.id) h.nd fun d hd => by
  obtain ⟨c, hc, rfl⟩ := List.mem_map.1 hd
  obtain ⟨u, hu, e, _⟩ := h.org c hc
  exact List.mem_map.2 ⟨u, hu, e⟩
 rw [List.length_map, List.length_map] at h1
 exact h1
theorem put_ok {U pg : List Cl} (hU : UniC U) (h : PgOk U pg) {c : Cl} (hc : OrgC U c) : PgOk U (putC pg c).1 ∧ DomC pg (putC pg c).1 ∧ (((c.after = Sp0 ∨ ∃ p ∈ pg, p.id = c.after)) → HasC (putC pg c).1 c) := by
 have hok := hc.ok hU
 unfold putC
 rw [if_neg (by rw [hok]; decide)]
 cases hg : getC pg c.id with
 | some o =>
  obtain ⟨ho, hid⟩ := getC_some hg
  obtain ⟨u, hu, u1, u2, u3, u4⟩ := hc
  obtain ⟨v, hv, v1, v2, v3, v4⟩ := h.org o ho
  have huv : u = v := hU.nd.inj hu hv (by rw [u1, v1, hid])
  subst huv
  have hsame : o.after = c.after ∧ o.patch = c.patch := ⟨by rw [← v2, u2], by rw [← v3, u3]⟩
  show PgOk U (if o.after = c.after ∧ o.patch = c.patch then _ else _ : List Cl × Int).1 ∧ DomC pg (if o.after = c.after ∧ o.patch = c.patch then _ else _ : List Cl × Int).1 ∧ (_ → HasC (if o.after = c.after ∧ o.patch = c.patch then _ else _ : List Cl × Int).1 c)
  rw [if_pos hsame]
  have hin : ({ o with gone := o.gone || c.gone } : Cl) ∈ setC pg { o with gone := o.gone || c.gone } := by
   unfold setC
   exact List.mem_map.2 ⟨o, ho, if_pos rfl⟩
  refine ⟨⟨?_, fun y hy => ?_, fun y hy => ?_⟩, fun y hy => ?_, fun _ => ⟨_, hin, hid, fun hcg => by show (o.gone || c.gone) = true; rw [hcg, Bool.or_true]⟩⟩
  ·unfold NdC
   rw [setC_ids]
   exact h.nd
  ·rcases mem_setC hy with rfl | ⟨hy, _⟩
   ·exact ⟨u, hu, v1, v2, v3, fun hg2 => (Bool.or_eq_true _ _ ▸ hg2 : o.gone = true ∨ c.gone = true).elim v4 u4⟩
   ·exact h.org y hy
  ·have key : ∀ d, (∃ p ∈ pg, p.id = d) → ∃ p ∈ setC pg { o with gone := o.gone || c.gone }, p.id = d := fun d ⟨p, hp, e⟩ => by
    have : d ∈ (setC pg { o with gone := o.gone || c.gone }).map Cl.id := by
     rw [setC_ids]
     exact List.mem_map.2 ⟨p, hp, e⟩
    obtain ⟨q, hq, e2⟩ := List.mem_map.1 this
    exact ⟨q, hq, e2⟩
   rcases mem_setC hy with rfl | ⟨hy, _⟩
   ·exact (h.closed o ho).imp id (key _)
   ·exact (h.closed y hy).imp id (key _)
  ·by_cases e : y.id = o.id
   ·obtain rfl : y = o := h.nd.inj hy ho e
    exact ⟨_, hin, rfl, fun hg2 => by show (y.gone || c.gone) = true; rw [hg2, Bool.true_or]⟩
   ·exact ⟨y, by unfold setC; exact List.mem_map.2 ⟨y, hy, if_neg e⟩, rfl, id⟩
 | none =>
  have hnew := getC_none hg
  show PgOk U (if getC pg c.after = none ∧ c.after ≠ Sp0 then _ else _ : List Cl × Int).1 ∧ DomC pg (if getC pg c.after = none ∧ c.after ≠ Sp0 then _ else _ : List Cl × Int).1 ∧ (_ → HasC (if getC pg c.after = none ∧ c.after ≠ Sp0 then _ else _ : List Cl × Int).1 c)
  by_cases ha : getC pg c.after = none ∧ c.after ≠ Sp0
  ·rw [if_pos ha]
   refine ⟨h, DomC.refl _, fun hp => ?_⟩
   rcases hp with e | ⟨p, hp, e⟩
   ·exact absurd e ha.2
   ·exact absurd e (getC_none ha.1 p hp)
  ·rw [if_neg ha]
   have hopen : ¬ (c.gone = false ∧ 64 ≤ openN pg) := fun ⟨_, h64⟩ => by
    have h1 : openN pg ≤ pg.length := List.countP_le_length
    have h2 := h.len
    have h3 := hU.few
    omega
   rw [if_neg hopen]
   have hup : c.after = Sp0 ∨ ∃ p ∈ pg, p.id = c.after := by
    by_cases e : c.after = Sp0
    ·exact Or.inl e
    ·cases hq : getC pg c.after with
     | none => exact absurd ⟨hq, e⟩ ha
     | some p => exact Or.inr ⟨p, getC_some hq⟩
   refine ⟨⟨?_, fun y hy => ?_, fun y hy => ?_⟩, fun y hy => ⟨y, List.mem_append.2 (Or.inl hy), rfl, id⟩, fun _ => ⟨c, List.mem_append.2 (Or.inr (List.mem_singleton.2 rfl)), rfl, id⟩⟩
   ·unfold NdC
    rw [List.map_append, List.nodup_append]
    refine ⟨h.nd, by simp, fun d hd e he heq => ?_⟩
    obtain ⟨x, hx, rfl⟩ := List.mem_map.1 hd
    obtain rfl : e = c.id := List.mem_singleton.1 he
    exact hnew x hx heq
   ·rcases List.mem_append.1 hy with hy | hy
    ·exact h.org y hy
    ·rw [List.mem_singleton.1 hy]; exact hc
   ·have key : ∀ d, (∃ p ∈ pg, p.id = d) → ∃ p ∈ pg ++ [c], p.id = d := fun d ⟨p, hp, e⟩ => ⟨p, List.mem_append.2 (Or.inl hp), e⟩
    rcases List.mem_append.1 hy with hy | hy
    ·exact (h.closed y hy).imp id (key _)
    ·rw [List.mem_singleton.1 hy]; exact hup.imp id (key _)
def recvC (pg : List Cl) (l : List Cl) : List Cl := l.foldl (fun p c => (putC p c).1) pg
theorem recv_ok {U : List Cl} (hU : UniC U) : ∀ (l pg : List Cl), PgOk U pg → (∀ c ∈ l, OrgC U c) → PgOk U (recvC pg l) ∧ DomC pg (recvC pg l)
 | [], pg, h, _ => ⟨h, DomC.refl _⟩
 | c :: l, pg, h, ho => by
  obtain ⟨h1, h2, _⟩ := put_ok hU h (ho c (List.mem_cons_self ..))
  obtain ⟨h3, h4⟩ := recv_ok hU l _ h1 fun x hx => ho x (List.mem_cons_of_mem _ hx)
  exact ⟨h3, h2.trans h4⟩
theorem recv_first {U : List Cl} (hU : UniC U) {L : List Cl} (hf : FirstC Sp0 L) (ho : ∀ c ∈ L, OrgC U c) : ∀ (l pre pg : List Cl), L = pre ++ l → PgOk U pg → (∀ c ∈ pre, HasC pg c) → DomC L (recvC pg l)
 | [], pre, pg, e, _, hp => fun c hc => by
  rw [e, List.append_nil] at hc
  exact hp c hc
 | c :: l, pre, pg, e, h, hp => by
  have hcL : c ∈ L := by rw [e]; exact List.mem_append.2 (Or.inr (List.mem_cons_self ..))
  obtain ⟨h1, h2, h3⟩ := put_ok hU h (ho c hcL)
  refine recv_first hU hf ho l (pre ++ [c]) _ (by rw [e, List.append_assoc]; rfl) h1 fun x hx => ?_
  rcases List.mem_append.1 hx with hx | hx
  ·exact (hp x hx).dom h2
  ·rw [List.mem_singleton.1 hx]
   refine h3 ?_
   rcases hf pre c l e with h4 | ⟨p, hpp, h4⟩
   ·exact Or.inl h4
   ·obtain ⟨y, hy, e5, _⟩ := hp p hpp
    exact Or.inr ⟨y, hy, e5.trans h4⟩
theorem recv_page {U pa pg : List Cl} (hU : UniC U) (ha : PgOk U pa) (h : PgOk U pg) : DomC pa (recvC pg (listC pa)) := by
 have hall := recv_first hU (listC_first pa) (fun c hc => ha.org c (walkC_mem hc)) (listC pa) [] pg rfl h fun c hc => by cases hc
 exact fun c hc => hall c (listC_all ha.closed (fun x hx => (ha.org x hx).ok hU) hc)
theorem page_all {U pg : List Cl} (hU : UniC U) (h : PgOk U pg) (hd : DomC U pg) : pg.Perm U := by
 refine (List.perm_ext_iff_of_nodup h.nd.nodup hU.nd.nodup).2 fun c => ⟨fun hc => ?_, fun hc => ?_⟩
 ·obtain ⟨u, hu, e1, e2, e3, e4⟩ := h.org c hc
  obtain ⟨y, hy, f1, f2⟩ := hd u hu
  obtain rfl : y = c := h.nd.inj hy hc (f1.trans e1)
  have hg : u.gone = y.gone := by
   cases hug : u.gone with
   | true => exact (f2 hug).symm
   | false =>
    cases hyg : y.gone with
    | false => rfl
    | true => rw [e4 hyg] at hug; cases hug
  have : u = y := by
   cases u; cases y
   simp_all
  exact this ▸ hu
 ·obtain ⟨y, hy, f1, f2⟩ := hd c hc
  obtain ⟨u, hu, e1, e2, e3, e4⟩ := h.org y hy
  obtain rfl : u = c := hU.nd.inj hu hc (e1.trans f1)
  have hg : u.gone = y.gone := by
   cases hug : u.gone with
   | true => exact (f2 hug).symm
   | false =>
    cases hyg : y.gone with
    | false => rfl
    | true => rw [e4 hyg] at hug; cases hug
  have : y = u := by
   cases u; cases y
   simp_all
  exact this ▸ hy
end Dg
namespace Dg
structure Ch where
 pg : Nat → List Cl
 ln : Nat → Nat → List (List Cl)
def Ch0 : Ch := ⟨fun _ => [], fun _ _ => []⟩
def upP {α : Type} (f : Nat → α) (i : Nat) (v : α) : Nat → α := fun k => if k = i then v else f k
theorem upP_at {α : Type} (f : Nat → α) (i : Nat) (v : α) : upP f i v i = v := if_pos rfl
theorem upP_ne {α : Type} (f : Nat → α) {i k : Nat} (v : α) (h : k ≠ i) : upP f i v k = f k := if_neg h
def Cl0 : Cl := ⟨Sp0, Sp0, ⟨0, nil8, nil8, nil8, nil8, zeroI, 0, nil8, nil8⟩, false⟩
def tellC (n : Nat) (s : Ch) (i : Nat) (x : Cl) : Ch := { s with ln := fun a b => if a = i ∧ b ≠ i ∧ b < n then s.ln a b ++ [[x]] else s.ln a b }
def nextN (l : List Cl) : Int := l.foldl (fun m y => max m (y.id.count + 1)) 1
def withC (s : Ch) (i : Nat) (pg : List Cl) : Ch := { s with pg := upP s.pg i pg }
def proposeC (n : Nat) (s : Ch) (i : Nat) (after : Sp) (p : Pt) : Ch :=
 if getC (listC (s.pg i)) after = none ∧ after ≠ Sp0 then s
 else if 1000000 < nextN (listC (s.pg i)) then s
 else if (putC (s.pg i) ⟨⟨i, nextN (listC (s.pg i))⟩, after, p, false⟩).2 ≠ 0 then s
 else tellC n (withC s i (putC (s.pg i) ⟨⟨i, nextN (listC (s.pg i))⟩, after, p, false⟩).1) i ⟨⟨i, nextN (listC (s.pg i))⟩, after, p, false⟩
def dropC (pg : List Cl) (c : Cl) : List Cl := setC pg { c with gone := true }
def withdrawC (n : Nat) (s : Ch) (i : Nat) (d : Sp) : Ch :=
 if d.seat ≠ i then s
 else match getC (s.pg i) d with
  | none => s
  | some c => tellC n (withC s i (dropC (s.pg i) c)) i ((getC (listC (dropC (s.pg i) c)) d).getD Cl0)
def upL (s : Ch) (a b : Nat) (l : List (List Cl)) : Ch := { s with ln := fun x y => if x = a ∧ y = b then l else s.ln x y }
def deliverC (s : Ch) (a b : Nat) (lost : Bool) : Ch :=
 if a = b then s
 else match s.ln a b with
  | [] => s
  | m :: r => if lost then upL s a b r else withC (upL s a b r) b (recvC (s.pg b) m)
def againC (s : Ch) (a b : Nat) : Ch := if a = b then s else upL s a b (s.ln a b ++ [listC (s.pg a)])
structure Ac where
 seat : Nat
 pick : Nat
 back : Bool
 patch : Pt
structure Wy where
 src : Nat
 dst : Nat
 lost : Bool
 again : Bool
def pickC (l : List Cl) (k : Nat) : Sp := if 0 < k ∧ 0 < l.length then (l[(k - 1) % l.length]?.getD Cl0).id else Sp0
def actC (n : Nat) (s : Ch) (a : Ac) : Ch :=
 if a.back then withdrawC n s (a.seat % n) (pickC (listC (s.pg (a.seat % n))) a.pick)
 else proposeC n s (a.seat % n) (pickC (listC (s.pg (a.seat % n))) a.pick) a.patch
def wayC (n : Nat) (s : Ch) (w : Wy) : Ch := if w.again then againC s (w.src % n) (w.dst % n) else deliverC s (w.src % n) (w.dst % n) w.lost
def drainC (s : Ch) (a b : Nat) : Nat → Ch
 | 0 => s
 | k + 1 => if a = b ∨ s.ln a b = [] then s else drainC (deliverC s a b false) a b k
def rowsC (f : Ch → Nat → Nat → Ch) (n : Nat) (s : Ch) : Ch := (List.range n).foldl (fun s a => (List.range n).foldl (fun s b => f s a b) s) s
def roundC (n : Nat) (s : Ch) : Ch := rowsC (fun s a b => drainC s a b 100) n (rowsC againC n s)
def actsC (n : Nat) (l : List Ac) : Ch := l.foldl (actC n) Ch0
def settleC (n : Nat) (l : List Ac) (w : List Wy) : Ch := roundC n (roundC n (w.foldl (wayC n) (actsC n l)))
def uniC (n : Nat) (pg : Nat → List Cl) : List Cl := (List.range n).flatMap pg
theorem OrgC.self {U : List Cl} {c : Cl} (h : c ∈ U) : OrgC U c := ⟨c, h, rfl, rfl, rfl, id⟩
theorem OrgC.up {U V : List Cl} {c : Cl} (h : OrgC U c) (hd : ∀ u ∈ U, OrgC V u) : OrgC V c := by
 obtain ⟨u, hu, e1, e2, e3, e4⟩ := h
 obtain ⟨v, hv, f1, f2, f3, f4⟩ := hd u hu
 exact ⟨v, hv, f1.trans e1, f2.trans e2, f3.trans e3, fun h => f4 (e4 h)⟩
structure ActsI (n k : Nat) (s : Ch) : Prop where
 nd : ∀ i, i < n → NdC (s.pg i)
 ok : ∀ i, i < n → ∀ c ∈ s.pg i, clOk c = true ∧ c.id.seat = i
 closed : ∀ i, i < n → ClosedC (s.pg i)
 msg : ∀ a b, ∀ m ∈ s.ln a b, ∀ c ∈ m, ∃ i, i < n ∧ OrgC (s.pg i) c
 len : ∀ a b, (s.ln a b).length ≤ k
 few : (uniC n s.pg).length ≤ k
theorem ActsI.up {n k : Nat} {s : Ch} (h : ActsI n k s) : ActsI n (k + 1) s := ⟨h.nd, h.ok, h.closed, h.msg, fun a b => by have := h.len a b; omega, by have := h.few; omega⟩
theorem uni_up {n i : Nat} (hi : i < n) (pg : Nat → List Cl) (v : List Cl) : (uniC n (upP pg i v)).length + (pg i).length = (uniC n pg).length + v.length := by
 unfold uniC
 induction n with
 | zero => omega
 | succ n ih =>
  rw [List.range_succ, List.flatMap_append, List.flatMap_append, List.length_append, List.length_append, List.flatMap_singleton, List.flatMap_singleton]
  by_cases e : i = n
  ·subst e
   rw [upP_at]
   have : (List.range i).flatMap (upP pg i v) = (List.range i).flatMap pg := by
    rw [List.flatMap_def, List.flatMap_def]
    congr 1
    exact List.map_congr_left fun k hk => upP_ne _ _ (by have := List.mem_range.1 hk; omega)
   rw [this]
   omega
  ·have := ih (by omega)
   rw [upP_ne _ _ (by omega : n ≠ i)]
   omega
theorem ActsI.tell {n k : Nat} {s : Ch} (h : ActsI n k s) {i : Nat} (hi : i < n) {pg : List Cl} {x : Cl} (nd : NdC pg) (ok : ∀ c ∈ pg, clOk c = true ∧ c.id.seat = i) (cl : ClosedC pg) (org : ∀ c ∈ s.pg i, OrgC pg c) (hx : OrgC pg x) (hl : pg.length ≤ (s.pg i).length + 1) : ActsI n (k + 1) (tellC n (withC s i pg) i x) := by
 have hup : ∀ c, (∃ j, j < n ∧ OrgC (s.pg j) c) → ∃ j, j < n ∧ OrgC (upP s.pg i pg j) c := fun c ⟨j, hj, hc⟩ => by
  refine ⟨j, hj, ?_⟩
  by_cases e : j = i
  ·subst e
   rw [upP_at]
   exact hc.up org
  ·rw [upP_ne _ _ e]
   exact hc
 refine ⟨fun j hj => ?_, fun j hj => ?_, fun j hj => ?_, fun a b m hm c hc => ?_, fun a b => ?_, ?_⟩
 ·show NdC (upP s.pg i pg j)
  by_cases e : j = i
  ·subst e; rw [upP_at]; exact nd
  ·rw [upP_ne _ _ e]; exact h.nd j hj
 ·show ∀ c ∈ upP s.pg i pg j, _
  by_cases e : j = i
  ·subst e; rw [upP_at]; exact ok
  ·rw [upP_ne _ _ e]; exact h.ok j hj
 ·show ClosedC (upP s.pg i pg j)
  by_cases e : j = i
  ·subst e; rw [upP_at]; exact cl
  ·rw [upP_ne _ _ e]; exact h.closed j hj
 ·replace hm : m ∈ (if a = i ∧ b ≠ i ∧ b < n then s.ln a b ++ [[x]] else s.ln a b) := hm
  show ∃ j, j < n ∧ OrgC (upP s.pg i pg j) c
  split at hm
  ·rcases List.mem_append.1 hm with hm | hm
   ·exact hup c (h.msg a b m hm c hc)
   ·obtain rfl := List.mem_singleton.1 hm
    obtain rfl := List.mem_singleton.1 hc
    exact ⟨i, hi, by rw [upP_at]; exact hx⟩
  ·exact hup c (h.msg a b m hm c hc)
 ·show (if a = i ∧ b ≠ i ∧ b < n then s.ln a b ++ [[x]] else s.ln a b).length ≤ k + 1
  have := h.len a b
  split
  ·rw [List.length_append]; show _ + 1 ≤ _; omega
  ·omega
 ·show (uniC n (upP s.pg i pg)).length ≤ k + 1
  have h1 := uni_up hi s.pg pg
  have h2 := h.few
  omega
theorem foldl_max (l : List Cl) (a : Int) : a ≤ l.foldl (fun m y => max m (y.id.count + 1)) a ∧ ∀ y ∈ l, y.id.count + 1 ≤ l.foldl (fun m y => max m (y.id.count + 1)) a := by
 induction l generalizing a with
 | nil => exact ⟨Int.le_refl _, fun y hy => by cases hy⟩
 | cons x l ih =>
  rw [List.foldl_cons]
  obtain ⟨h1, h2⟩ := ih (max a (x.id.count + 1))
  refine ⟨by omega, fun y hy => ?_⟩
  rcases List.mem_cons.1 hy with rfl | hy
  ·omega
  ·exact h2 y hy
theorem next_gt {l : List Cl} {y : Cl} (h : y ∈ l) : y.id.count + 1 ≤ nextN l := (foldl_max l 1).2 y h
theorem propose_ok {n k : Nat} {s : Ch} (h : ActsI n k s) {i : Nat} (hi : i < n) (after : Sp) (p : Pt) : ActsI n (k + 1) (proposeC n s i after p) := by
 unfold proposeC
 split
 ·exact h.up
 split
 ·exact h.up
 split
 ·exact h.up
 rename_i h1 h2 h3
 refine (fun (x : Cl) (e1 : x.id.seat = i) (e2 : x.id.count = nextN (listC (s.pg i))) (h3 : (putC (s.pg i) x).2 = 0) => ?_ : ∀ x : Cl, x.id.seat = i → x.id.count = nextN (listC (s.pg i)) → (putC (s.pg i) x).2 = 0 → ActsI n (k + 1) (tellC n (withC s i (putC (s.pg i) x).1) i x)) _ rfl rfl (Decidable.not_not.1 h3)
 have hall : ∀ c ∈ s.pg i, c ∈ listC (s.pg i) := fun c hc => listC_all (h.closed i hi) (fun c hc => (h.ok i hi c hc).1) hc
 have hnew : getC (s.pg i) x.id = none := by
  cases hg : getC (s.pg i) x.id with
  | none => rfl
  | some o =>
   obtain ⟨ho, e⟩ := getC_some hg
   have := next_gt (hall o ho)
   rw [e, e2] at this
   omega
 unfold putC at h3 ⊢
 rw [hnew] at h3 ⊢
 by_cases ho : clOk x = false
 ·rw [if_pos ho] at h3
  exact absurd (show _ = _ from h3) (by intro h; cases h)
 rw [if_neg ho] at h3 ⊢
 show ActsI n (k + 1) (tellC n (withC s i (if getC (s.pg i) x.after = none ∧ x.after ≠ Sp0 then _ else _ : List Cl × Int).1) i x)
 replace h3 : (if getC (s.pg i) x.after = none ∧ x.after ≠ Sp0 then _ else _ : List Cl × Int).2 = 0 := h3
 by_cases ha : getC (s.pg i) x.after = none ∧ x.after ≠ Sp0
 ·rw [if_pos ha] at h3
  exact absurd (show _ = _ from h3) (by intro h; cases h)
 rw [if_neg ha] at h3 ⊢
 by_cases hf : x.gone = false ∧ 64 ≤ openN (s.pg i)
 ·rw [if_pos hf] at h3
  exact absurd (show _ = _ from h3) (by intro h; cases h)
 rw [if_neg hf]
 have hup : x.after = Sp0 ∨ ∃ p ∈ s.pg i, p.id = x.after := by
  by_cases e : x.after = Sp0
  ·exact Or.inl e
  ·cases hq : getC (s.pg i) x.after with
   | none => exact absurd ⟨hq, e⟩ ha
   | some p => exact Or.inr ⟨p, getC_some hq⟩
 refine h.tell hi ?_ (fun c hc => ?_) (fun c hc => ?_) (fun c hc => OrgC.self (List.mem_append.2 (Or.inl hc))) (OrgC.self (List.mem_append.2 (Or.inr (List.mem_singleton.2 rfl)))) (by show (s.pg i ++ [x]).length ≤ _; rw [List.length_append]; exact Nat.le_refl _)
 ·show NdC (s.pg i ++ [x])
  unfold NdC
  rw [List.map_append, List.nodup_append]
  refine ⟨h.nd i hi, by simp, fun d hd e he heq => ?_⟩
  obtain ⟨y, hy, rfl⟩ := List.mem_map.1 hd
  obtain rfl : e = x.id := List.mem_singleton.1 he
  exact getC_none hnew y hy heq
 ·rcases List.mem_append.1 hc with hc | hc
  ·exact h.ok i hi c hc
  ·rw [List.mem_singleton.1 hc]
   exact ⟨(Bool.not_eq_false _).mp ho, e1⟩
 ·have key : ∀ d, (∃ p ∈ s.pg i, p.id = d) → ∃ p ∈ s.pg i ++ [x], p.id = d := fun d ⟨p, hp, e⟩ => ⟨p, List.mem_append.2 (Or.inl hp), e⟩
  rcases List.mem_append.1 hc with hc | hc
  ·exact (h.closed i hi c hc).imp id (key _)
  ·rw [List.mem_singleton.1 hc]
   exact hup.imp id (key _)
theorem withdraw_ok {n k : Nat} {s : Ch} (h : ActsI n k s) {i : Nat} (hi : i < n) (d : Sp) : ActsI n (k + 1) (withdrawC n s i d) := by
 unfold withdrawC
 split
 ·exact h.up
 split
 ·exact h.up
 rename_i c hg
 obtain ⟨hc, rfl⟩ := getC_some hg
 have hin : ({ c with gone := true } : Cl) ∈ dropC (s.pg i) c := by
  unfold dropC setC
  exact List.mem_map.2 ⟨c, hc, if_pos rfl⟩
 have hids : (dropC (s.pg i) c).map Cl.id = (s.pg i).map Cl.id := setC_ids _ _
 have hnd : NdC (dropC (s.pg i) c) := by
  unfold NdC
  rw [hids]
  exact h.nd i hi
 have hmem : ∀ y ∈ dropC (s.pg i) c, y = { c with gone := true } ∨ y ∈ s.pg i := fun y hy => (mem_setC hy).imp id (·.1)
 have hok : ∀ y ∈ dropC (s.pg i) c, clOk y = true ∧ y.id.seat = i := fun y hy => by
  rcases hmem y hy with rfl | hy
  ·exact h.ok i hi c hc
  ·exact h.ok i hi y hy
 have hcl : ClosedC (dropC (s.pg i) c) := fun y hy => by
  have key : ∀ d, (∃ p ∈ s.pg i, p.id = d) → ∃ p ∈ dropC (s.pg i) c, p.id = d := fun d ⟨p, hp, e⟩ => by
   have : d ∈ (dropC (s.pg i) c).map Cl.id := by
    rw [hids]
    exact List.mem_map.2 ⟨p, hp, e⟩
   obtain ⟨q, hq, e2⟩ := List.mem_map.1 this
   exact ⟨q, hq, e2⟩
  rcases hmem y hy with rfl | hy
  ·exact (h.closed i hi c hc).imp id (key _)
  ·exact (h.closed i hi y hy).imp id (key _)
 have hl : getC (listC (dropC (s.pg i) c)) c.id = some { c with gone := true } := by
  have h1 : ({ c with gone := true } : Cl) ∈ listC (dropC (s.pg i) c) := listC_all hcl (fun y hy => (hok y hy).1) hin
  cases hq : getC (listC (dropC (s.pg i) c)) c.id with
  | none => exact absurd (rfl : ({ c with gone := true } : Cl).id = c.id) (getC_none hq _ h1)
  | some x =>
   obtain ⟨hx, e⟩ := getC_some hq
   exact congrArg some (hnd.inj (walkC_mem hx) hin e)
 rw [hl]
 refine h.tell hi hnd hok hcl (fun y hy => ?_) (OrgC.self hin) (by unfold dropC setC; rw [List.length_map]; omega)
 by_cases e : y.id = c.id
 ·obtain rfl : y = c := (h.nd i hi).inj hy hc e
  exact ⟨_, hin, rfl, rfl, rfl, fun _ => rfl⟩
 ·exact OrgC.self (by unfold dropC setC; exact List.mem_map.2 ⟨y, hy, if_neg e⟩)
theorem acts_ok (n : Nat) (hn : 0 < n) (l : List Ac) : ActsI n l.length (actsC n l) := by
 have : ∀ (l : List Ac) (k : Nat) (s : Ch), ActsI n k s → ActsI n (k + l.length) (l.foldl (actC n) s) := by
  intro l
  induction l with
  | nil => intro k s h; exact h
  | cons a l ih =>
   intro k s h
   rw [List.foldl_cons, List.length_cons, show k + (l.length + 1) = (k + 1) + l.length by omega]
   refine ih (k + 1) _ ?_
   have hi : a.seat % n < n := Nat.mod_lt _ hn
   unfold actC
   split
   ·exact withdraw_ok h hi _
   ·exact propose_ok h hi _ _
 have := this l 0 Ch0 ⟨fun i _ => List.nodup_nil, fun i _ c hc => (by cases hc), fun i _ c hc => (by cases hc), fun a b m hm => (by cases hm), fun a b => Nat.le_refl _, by
  unfold uniC
  rw [List.length_flatMap]
  have : ∀ m, ((List.range m).map fun a => (Ch0.pg a).length).sum = 0 := fun m => by
   induction m with
   | zero => rfl
   | succ m ih => rw [List.range_succ, List.map_append, List.sum_append, ih]; rfl
  exact Nat.le_of_eq (this n)⟩
 rw [Nat.zero_add] at this
 exact this
theorem acts_uni {n k : Nat} {s : Ch} (h : ActsI n k s) (hk : k < 64) : UniC (uniC n s.pg) := by
 refine ⟨?_, fun c hc => ?_, by have := h.few; omega⟩
 ·have hm : ∀ m, m ≤ n → NdC (uniC m s.pg) ∧ ∀ c ∈ uniC m s.pg, ∃ i, i < m ∧ c.id.seat = (i : Int) := by
   intro m
   induction m with
   | zero => intro _; exact ⟨List.nodup_nil, fun c hc => by cases hc⟩
   | succ m ih =>
    intro hm
    obtain ⟨h1, h2⟩ := ih (by omega)
    unfold uniC at *
    rw [List.range_succ, List.flatMap_append, List.flatMap_singleton]
    refine ⟨?_, fun c hc => ?_⟩
    ·unfold NdC
     rw [List.map_append, List.nodup_append]
     refine ⟨h1, h.nd m (by omega), fun d hd e he heq => ?_⟩
     obtain ⟨y, hy, rfl⟩ := List.mem_map.1 hd
     obtain ⟨z, hz, rfl⟩ := List.mem_map.1 he
     obtain ⟨j, hj, e1⟩ := h2 y hy
     have e2 := (h.ok m (by omega) z hz).2
     rw [heq, e2] at e1
     omega
    ·rcases List.mem_append.1 hc with hc | hc
     ·obtain ⟨j, hj, e1⟩ := h2 c hc
      exact ⟨j, by omega, e1⟩
     ·exact ⟨m, by omega, (h.ok m (by omega) c hc).2⟩
  exact (hm n (Nat.le_refl _)).1
 ·obtain ⟨i, hi, hc⟩ := List.mem_flatMap.1 hc
  exact (h.ok i (List.mem_range.1 hi) c hc).1
structure WaysI (n : Nat) (P : Nat → List Cl) (U : List Cl) (k : Nat) (s : Ch) : Prop where
 pg : ∀ i, i < n → PgOk U (s.pg i) ∧ DomC (P i) (s.pg i)
 msg : ∀ a b, ∀ m ∈ s.ln a b, ∀ c ∈ m, OrgC U c
 len : ∀ a b, a < n → b < n → a ≠ b → (s.ln a b).length ≤ k
theorem WaysI.mono {n k k' : Nat} {P : Nat → List Cl} {U : List Cl} {s : Ch} (h : WaysI n P U k s) (hk : k ≤ k') : WaysI n P U k' s := ⟨h.pg, h.msg, fun a b ha hb hab => by have := h.len a b ha hb hab; omega⟩
theorem acts_ways {n k : Nat} {s : Ch} (h : ActsI n k s) : WaysI n s.pg (uniC n s.pg) k s := by
 refine ⟨fun i hi => ⟨⟨h.nd i hi, fun c hc => OrgC.self (List.mem_flatMap.2 ⟨i, List.mem_range.2 hi, hc⟩), h.closed i hi⟩, DomC.refl _⟩, fun a b m hm c hc => ?_, fun a b _ _ _ => h.len a b⟩
 obtain ⟨i, hi, ho⟩ := h.msg a b m hm c hc
 exact ho.up fun u hu => OrgC.self (List.mem_flatMap.2 ⟨i, List.mem_range.2 hi, hu⟩)
theorem again_ok {n k : Nat} {P : Nat → List Cl} {U : List Cl} {s : Ch} (h : WaysI n P U k s) {a b : Nat} (ha : a < n) : WaysI n P U (k + 1) (againC s a b) := by
 unfold againC
 split
 ·exact h.mono (by omega)
 refine ⟨h.pg, fun x y m hm c hc => ?_, fun x y hx hy hxy => ?_⟩
 ·replace hm : m ∈ (if x = a ∧ y = b then s.ln a b ++ [listC (s.pg a)] else s.ln x y) := hm
  split at hm
  ·rcases List.mem_append.1 hm with hm | hm
   ·exact h.msg a b m hm c hc
   ·obtain rfl := List.mem_singleton.1 hm
    exact (h.pg a ha).1.org c (walkC_mem hc)
  ·exact h.msg x y m hm c hc
 ·show (if x = a ∧ y = b then s.ln a b ++ [listC (s.pg a)] else s.ln x y).length ≤ k + 1
  have := h.len x y hx hy hxy
  split
  ·rename_i e
   rw [List.length_append, ← e.1, ← e.2]
   show _ + 1 ≤ _
   omega
  ·omega
theorem deliver_ok {n k : Nat} {P : Nat → List Cl} {U : List Cl} (hU : UniC U) {s : Ch} (h : WaysI n P U k s) {a b : Nat} (hb : b < n) (lost : Bool) : WaysI n P U k (deliverC s a b lost) ∧ (∀ i, i < n → DomC (s.pg i) ((deliverC s a b lost).pg i)) := by
 unfold deliverC
 split
 ·exact ⟨h, fun i _ => DomC.refl _⟩
 split
 ·exact ⟨h, fun i _ => DomC.refl _⟩
 rename_i hab m r hl
 have hline : ∀ pg : Nat → List Cl, (∀ i, i < n → PgOk U (pg i) ∧ DomC (P i) (pg i)) → WaysI n P U k { upL s a b r with pg := pg } := fun pg hpg => by
  refine ⟨hpg, fun x y m2 hm c hc => ?_, fun x y hx hy hxy => ?_⟩
  ·replace hm : m2 ∈ (if x = a ∧ y = b then r else s.ln x y) := hm
   split at hm
   ·exact h.msg a b m2 (by rw [hl]; exact List.mem_cons_of_mem _ hm) c hc
   ·exact h.msg x y m2 hm c hc
  ·show (if x = a ∧ y = b then r else s.ln x y).length ≤ k
   have := h.len x y hx hy hxy
   split
   ·rename_i e
    rw [e.1, e.2, hl, List.length_cons] at this
    omega
   ·exact this
 split
 ·exact ⟨hline s.pg h.pg, fun i _ => DomC.refl _⟩
 have hrec := recv_ok hU m (s.pg b) (h.pg b hb).1 fun c hc => h.msg a b m (by rw [hl]; exact List.mem_cons_self ..) c hc
 have hd : ∀ i, i < n → DomC (s.pg i) (upP s.pg b (recvC (s.pg b) m) i) := fun i hi => by
  by_cases e : i = b
  ·subst e; rw [upP_at]; exact hrec.2
  ·rw [upP_ne _ _ e]; exact DomC.refl _
 refine ⟨hline (upP s.pg b (recvC (s.pg b) m)) fun i hi => ⟨?_, (h.pg i hi).2.trans (hd i hi)⟩, hd⟩
 by_cases e : i = b
 ·subst e; rw [upP_at]; exact hrec.1
 ·rw [upP_ne _ _ e]; exact (h.pg i hi).1
theorem ways_ok {n : Nat} {P : Nat → List Cl} {U : List Cl} (hU : UniC U) (hn : 0 < n) : ∀ (w : List Wy) (k : Nat) (s : Ch), WaysI n P U k s → WaysI n P U (k + w.length) (w.foldl (wayC n) s)
 | [], k, s, h => h
 | x :: w, k, s, h => by
  rw [List.foldl_cons, List.length_cons, show k + (w.length + 1) = (k + 1) + w.length by omega]
  refine ways_ok hU hn w (k + 1) _ ?_
  unfold wayC
  split
  ·exact again_ok h (Nat.mod_lt _ hn)
  ·exact (deliver_ok hU h (Nat.mod_lt _ hn) _).1.mono (by omega)
theorem deliver_ln {s : Ch} {a b : Nat} (hab : a ≠ b) {m : List Cl} {r : List (List Cl)} (hl : s.ln a b = m :: r) : deliverC s a b false = withC (upL s a b r) b (recvC (s.pg b) m) := by
 unfold deliverC
 rw [if_neg hab, hl]
 rfl
theorem drain_ok {n k : Nat} {P : Nat → List Cl} {U : List Cl} (hU : UniC U) {a b : Nat} (hb : b < n) (hab : a ≠ b) : ∀ (f : Nat) (s : Ch), WaysI n P U k s → (s.ln a b).length ≤ f → WaysI n P U k (drainC s a b f) ∧ (∀ i, i < n → DomC (s.pg i) ((drainC s a b f).pg i)) ∧ (drainC s a b f).ln a b = [] ∧ (∀ x y, ¬ (x = a ∧ y = b) → (drainC s a b f).ln x y = s.ln x y) ∧ (∀ p l, PgOk U p → s.ln a b = l ++ [listC p] → DomC p ((drainC s a b f).pg b))
 | 0, s, h, hf => by
  have e : s.ln a b = [] := List.length_eq_zero_iff.1 (by omega)
  exact ⟨h, fun i _ => DomC.refl _, e, fun _ _ _ => rfl, fun p l _ e2 => absurd (e.symm.trans e2) (by simp)⟩
 | f + 1, s, h, hf => by
  unfold drainC
  cases hl : s.ln a b with
  | nil =>
   rw [if_pos (Or.inr rfl)]
   exact ⟨h, fun i _ => DomC.refl _, hl, fun _ _ _ => rfl, fun p l _ e2 => absurd e2 (by simp)⟩
  | cons m r =>
   rw [if_neg (by simp [hab])]
   obtain ⟨h1, h2⟩ := deliver_ok hU h (a := a) hb false
   have hln : (deliverC s a b false).ln a b = r := by
    rw [deliver_ln hab hl]
    show (if a = a ∧ b = b then r else s.ln a b) = r
    rw [if_pos ⟨rfl, rfl⟩]
   have hpg : (deliverC s a b false).pg b = recvC (s.pg b) m := by
    rw [deliver_ln hab hl]
    exact upP_at _ _ _
   rw [hl, List.length_cons] at hf
   obtain ⟨d1, d2, d3, d4, d5⟩ := drain_ok hU hb hab f _ h1 (by rw [hln]; omega)
   refine ⟨d1, fun i hi => (h2 i hi).trans (d2 i hi), d3, fun x y hxy => ?_, fun p l hp e => ?_⟩
   ·rw [d4 x y hxy, deliver_ln hab hl]
    show (if x = a ∧ y = b then r else s.ln x y) = s.ln x y
    rw [if_neg hxy]
   ·cases l with
    | nil =>
     injection e with e1 e2
     subst e1
     have := recv_page hU hp (h.pg b hb).1
     rw [← hpg] at this
     exact this.trans (d2 b hb)
    | cons q l =>
     injection e with e1 e2
     exact d5 p l hp (by rw [hln]; exact e2)
def prsC (n : Nat) : List (Nat × Nat) := (List.range n).flatMap fun a => (List.range n).map fun b => (a, b)
theorem rowsC_eq (f : Ch → Nat → Nat → Ch) (n : Nat) (s : Ch) : rowsC f n s = (prsC n).foldl (fun s p => f s p.1 p.2) s := by
 unfold rowsC prsC
 rw [List.foldl_flatMap]
 congr 1
 funext s a
 rw [List.foldl_map]
theorem mem_prsC {n a b : Nat} : (a, b) ∈ prsC n ↔ a < n ∧ b < n := by
 unfold prsC
 simp
theorem prsC_len {n : Nat} (hn : n ≤ 4) : (prsC n).length ≤ 16 := by
 match n, hn with
 | 0, _ => decide
 | 1, _ => decide
 | 2, _ => decide
 | 3, _ => decide
 | 4, _ => decide
 | n + 5, h => omega
theorem agains_ok {n : Nat} {P : Nat → List Cl} {U : List Cl} : ∀ (L : List (Nat × Nat)) (k : Nat) (s : Ch), (∀ p ∈ L, p.1 < n ∧ p.2 < n) → WaysI n P U k s → WaysI n P U (k + L.length) (L.foldl (fun s p => againC s p.1 p.2) s) ∧ (L.foldl (fun s p => againC s p.1 p.2) s).pg = s.pg ∧ ∀ a b, a ≠ b → ((a, b) ∈ L ∨ ∃ l, s.ln a b = l ++ [listC (s.pg a)]) → ∃ l, (L.foldl (fun s p => againC s p.1 p.2) s).ln a b = l ++ [listC (s.pg a)]
 | [], k, s, _, h => ⟨h, rfl, fun a b _ ho => ho.resolve_left (by simp)⟩
 | p :: L, k, s, hL, h => by
  rw [List.foldl_cons, List.length_cons, show k + (L.length + 1) = (k + 1) + L.length by omega]
  have hpg : (againC s p.1 p.2).pg = s.pg := by
   unfold againC
   split <;> rfl
  obtain ⟨h1, h2, h3⟩ := agains_ok L (k + 1) _ (fun q hq => hL q (List.mem_cons_of_mem _ hq)) (again_ok h (b := p.2) (hL p (List.mem_cons_self ..)).1)
  refine ⟨h1, h2.trans hpg, fun a b hab ho => ?_⟩
  rw [← hpg]
  refine h3 a b hab ?_
  rw [hpg]
  by_cases e : a = p.1 ∧ b = p.2
  ·refine Or.inr ⟨s.ln a b, ?_⟩
   unfold againC
   rw [if_neg (by rw [← e.1, ← e.2]; exact hab)]
   show (if a = p.1 ∧ b = p.2 then s.ln p.1 p.2 ++ [listC (s.pg p.1)] else s.ln a b) = _
   rw [if_pos e, e.1, e.2]
  ·rcases ho with ho | ⟨l, ho⟩
   ·rcases List.mem_cons.1 ho with ho | ho
    ·exact absurd ⟨congrArg Prod.fst ho, congrArg Prod.snd ho⟩ e
    ·exact Or.inl ho
   ·refine Or.inr ⟨l, ?_⟩
    unfold againC
    split
    ·exact ho
    ·show (if a = p.1 ∧ b = p.2 then s.ln p.1 p.2 ++ [listC (s.pg p.1)] else s.ln a b) = _
     rw [if_neg e]
     exact ho
theorem drainC_self (s : Ch) (a : Nat) (f : Nat) : drainC s a a f = s := by
 cases f with
 | zero => rfl
 | succ f => unfold drainC; rw [if_pos (Or.inl rfl)]
theorem drains_ok {n k : Nat} (hk : k ≤ 100) {P : Nat → List Cl} {U : List Cl} (hU : UniC U) {Q : Nat → List Cl} (hQ : ∀ i, i < n → PgOk U (Q i)) : ∀ (L : List (Nat × Nat)) (s : Ch), (∀ p ∈ L, p.1 < n ∧ p.2 < n) → WaysI n P U k s → (∀ a b, a < n → b < n → a ≠ b → (∃ l, s.ln a b = l ++ [listC (Q a)]) ∨ (s.ln a b = [] ∧ DomC (Q a) (s.pg b))) → WaysI n P U k (L.foldl (fun s p => drainC s p.1 p.2 100) s) ∧ (∀ i, i < n → DomC (s.pg i) ((L.foldl (fun s p => drainC s p.1 p.2 100) s).pg i)) ∧ ∀ a b, a < n → b < n → a ≠ b → ((a, b) ∈ L ∨ (s.ln a b = [] ∧ DomC (Q a) (s.pg b))) → (L.foldl (fun s p => drainC s p.1 p.2 100) s).ln a b = [] ∧ DomC (Q a) ((L.foldl (fun s p => drainC s p.1 p.2 100) s).pg b)
 | [], s, _, h, _ => ⟨h, fun i _ => DomC.refl _, fun a b _ _ _ ho => ho.resolve_left (by simp)⟩
 | p :: L, s, hL, h, hq => by
  rw [List.foldl_cons]
  obtain ⟨hp1, hp2⟩ := hL p (List.mem_cons_self ..)
  by_cases e : p.1 = p.2
  ·rw [e, drainC_self]
   obtain ⟨h1, h2, h3⟩ := drains_ok hk hU hQ L s (fun q hq => hL q (List.mem_cons_of_mem _ hq)) h hq
   refine ⟨h1, h2, fun a b ha hb hab ho => h3 a b ha hb hab ?_⟩
   rcases ho with ho | ho
   ·rcases List.mem_cons.1 ho with ho | ho
    ·exact absurd ((congrArg Prod.fst ho : a = p.1).trans (e.trans (congrArg Prod.snd ho : b = p.2).symm)) hab
    ·exact Or.inl ho
   ·exact Or.inr ho
  ·obtain ⟨d1, d2, d3, d4, d5⟩ := drain_ok hU hp2 e 100 s h (by have := h.len p.1 p.2 hp1 hp2 e; omega)
   have hdone : (drainC s p.1 p.2 100).ln p.1 p.2 = [] ∧ DomC (Q p.1) ((drainC s p.1 p.2 100).pg p.2) := by
    refine ⟨d3, ?_⟩
    rcases hq p.1 p.2 hp1 hp2 e with ⟨l, hl⟩ | ⟨_, hl⟩
    ·exact d5 _ l (hQ p.1 hp1) hl
    ·exact hl.trans (d2 p.2 hp2)
   have hstep : ∀ a b, b < n → (s.ln a b = [] ∧ DomC (Q a) (s.pg b)) → (drainC s p.1 p.2 100).ln a b = [] ∧ DomC (Q a) ((drainC s p.1 p.2 100).pg b) := fun a b hb ⟨h1, h2⟩ => by
    by_cases e2 : a = p.1 ∧ b = p.2
    ·rw [e2.1, e2.2]; exact hdone
    ·exact ⟨(d4 a b e2).trans h1, h2.trans (d2 b hb)⟩
   obtain ⟨h1, h2, h3⟩ := drains_ok hk hU hQ L _ (fun q hq => hL q (List.mem_cons_of_mem _ hq)) d1 fun a b ha hb hab => by
    by_cases e2 : a = p.1 ∧ b = p.2
    ·exact Or.inr (by rw [e2.1, e2.2]; exact hdone)
    ·rcases hq a b ha hb hab with ⟨l, hl⟩ | ho
     ·exact Or.inl ⟨l, (d4 a b e2).trans hl⟩
     ·exact Or.inr (hstep a b hb ho)
   refine ⟨h1, fun i hi => (d2 i hi).trans (h2 i hi), fun a b ha hb hab ho => h3 a b ha hb hab ?_⟩
   rcases ho with ho | ho
   ·rcases List.mem_cons.1 ho with ho | ho
    ·refine Or.inr ?_
     rw [show a = p.1 from congrArg Prod.fst ho, show b = p.2 from congrArg Prod.snd ho]
     exact hdone
    ·exact Or.inl ho
   ·exact Or.inr (hstep a b hb ho)
theorem round_ok {n k : Nat} (hn : n ≤ 4) (hk : k ≤ 84) {P : Nat → List Cl} {U : List Cl} (hU : UniC U) {s : Ch} (h : WaysI n P U k s) : WaysI n P U 0 (roundC n s) ∧ ∀ a b, a < n → b < n → DomC (P a) ((roundC n s).pg b) := by
 unfold roundC
 rw [rowsC_eq, rowsC_eq]
 have hL : ∀ p ∈ prsC n, p.1 < n ∧ p.2 < n := fun p hp => mem_prsC.1 hp
 obtain ⟨g1, g2, g3⟩ := agains_ok (prsC n) k s hL h
 have hlen := prsC_len hn
 obtain ⟨h1, h2, h3⟩ := drains_ok (k := k + (prsC n).length) (by omega) hU (fun i hi => (h.pg i hi).1) (prsC n) _ hL g1 fun a b ha hb hab => Or.inl (g3 a b hab (Or.inl (mem_prsC.2 ⟨ha, hb⟩)))
 refine ⟨⟨h1.pg, h1.msg, fun a b ha hb hab => ?_⟩, fun a b ha hb => ?_⟩
 ·rw [(h3 a b ha hb hab (Or.inl (mem_prsC.2 ⟨ha, hb⟩))).1]
  exact Nat.le_refl _
 ·by_cases e : a = b
  ·subst e
   exact (h1.pg a ha).2
  ·exact (h.pg a ha).2.trans (h3 a b ha hb e (Or.inl (mem_prsC.2 ⟨ha, hb⟩))).2
theorem settle_ok {n : Nat} (h0 : 0 < n) (hn : n ≤ 4) {l : List Ac} {w : List Wy} (hl : l.length ≤ 20) (hw : w.length ≤ 40) {i : Nat} (hi : i < n) : listC ((settleC n l w).pg i) = listC (uniC n (actsC n l).pg) := by
 have ha := acts_ok n h0 l
 have hU := acts_uni ha (by omega)
 have hws := ways_ok hU h0 w _ _ (acts_ways ha)
 obtain ⟨r1, _⟩ := round_ok hn (by omega) hU hws
 obtain ⟨r2, r3⟩ := round_ok hn (by omega) hU r1
 refine listC_perm (r2.pg i hi).1.nd (page_all hU (r2.pg i hi).1 fun c hc => ?_)
 obtain ⟨a, han, hc⟩ := List.mem_flatMap.1 hc
 exact r3 a i (List.mem_range.1 han) hi c hc
end Dg
namespace Dg
inductive UpC (pg : List Cl) : Cl → Cl → Prop
 | self (c : Cl) : UpC pg c c
 | more {x p c : Cl} (hp : p ∈ pg) (e : p.id = x.after) (h : UpC pg p c) : UpC pg x c
theorem UpC.trans {pg : List Cl} {x y z : Cl} (h : UpC pg x y) (h2 : UpC pg y z) : UpC pg x z := by
 induction h with
 | self c => exact h2
 | more hp e _ ih => exact .more hp e (ih h2)
theorem UpC.two {pg : List Cl} (hn : NdC pg) {x c d : Cl} (h1 : UpC pg x c) : UpC pg x d → UpC pg c d ∨ UpC pg d c := by
 induction h1 with
 | self c => exact fun h => Or.inl h
 | @more x p c hp e h ih =>
  intro h2
  cases h2 with
  | self => exact Or.inr (.more hp e h)
  | more hp2 e2 h2 =>
   obtain rfl := hn.inj hp hp2 (e.trans e2.symm)
   exact ih h2
theorem UpC.count {pg : List Cl} (ho : ∀ c ∈ pg, clOk c = true) {x c : Cl} (h : UpC pg x c) : clOk x = true → c.id.count ≤ x.id.count := by
 induction h with
 | self c => exact fun _ => Int.le_refl _
 | @more x p c hp e h ih =>
  intro hx
  have h1 := ih (ho p hp)
  rcases clOk_up hx with e2 | h2
  ·have := (spOk_count (clOk_id (ho p hp))).1
   rw [e, e2] at this
   exact absurd this (by decide)
  ·rw [← e] at h2
   omega
theorem UpC.sib {pg : List Cl} (ho : ∀ c ∈ pg, clOk c = true) {x c : Cl} (hx : clOk x = true) (hc : clOk c = true) (h : UpC pg x c) (e : x.after = c.after) : x = c := by
 cases h with
 | self => rfl
 | @more _ p _ hp e2 h =>
  have h1 := h.count ho (ho p hp)
  have h3 := (spOk_count (clOk_id (ho p hp))).1
  rcases clOk_up hc with e4 | h4
  ·rw [e2, e, e4] at h3
   exact absurd h3 (by decide)
  ·rw [e2, e] at h1
   omega
theorem walkC_up {pg : List Cl} : ∀ {f : Nat} {d : Sp} {x : Cl}, x ∈ walkC pg f d → ∃ c ∈ kidsC pg d, UpC pg x c
 | 0, _, _, h => by cases h
 | f + 1, d, x, h => by
  unfold walkC at h
  obtain ⟨c, hc, hx⟩ := List.mem_flatMap.1 h
  refine ⟨c, hc, ?_⟩
  rcases List.mem_cons.1 hx with rfl | hx
  ·exact .self _
  ·obtain ⟨c2, hc2, hu⟩ := walkC_up hx
   exact hu.trans (.more (mem_kidsC.1 hc).1 (mem_kidsC.1 hc2).2.symm (.self c))
theorem walkC_nodup {pg : List Cl} (hn : NdC pg) (ho : ∀ c ∈ pg, clOk c = true) : ∀ (f : Nat) (d : Sp), (walkC pg f d).Nodup
 | 0, _ => List.nodup_nil
 | f + 1, d => by
  unfold walkC
  have hk : (kidsC pg d).Nodup := ((List.mergeSort_perm _ _).nodup_iff).2 (hn.nodup.filter _)
  have hup : ∀ c ∈ kidsC pg d, ∀ x ∈ c :: walkC pg f c.id, UpC pg x c := fun c hc x hx => by
   rcases List.mem_cons.1 hx with rfl | hx
   ·exact .self _
   ·obtain ⟨c2, hc2, hu⟩ := walkC_up hx
    exact hu.trans (.more (mem_kidsC.1 hc).1 (mem_kidsC.1 hc2).2.symm (.self c))
  have hin : ∀ c ∈ kidsC pg d, ∀ x ∈ c :: walkC pg f c.id, x ∈ pg := fun c hc x hx => by
   rcases List.mem_cons.1 hx with rfl | hx
   ·exact (mem_kidsC.1 hc).1
   ·exact walkC_mem hx
  unfold List.Nodup at hk ⊢
  rw [List.pairwise_flatMap]
  refine ⟨fun c hc => List.nodup_cons.2 ⟨fun h => ?_, walkC_nodup hn ho f c.id⟩, hk.imp_of_mem fun {c c2} hc hc2 hne x hx y hy e => ?_⟩
  ·obtain ⟨c2, hc2, hu⟩ := walkC_up h
   have h1 := hu.count ho (ho c (mem_kidsC.1 hc).1)
   have h2 := mem_kidsC.1 hc2
   rcases clOk_up (ho c2 h2.1) with e | h3
   ·have := (spOk_count (clOk_id (ho c (mem_kidsC.1 hc).1))).1
    rw [← h2.2, e] at this
    exact absurd this (by decide)
   ·rw [h2.2] at h3
    omega
  ·subst e
   have h1 := mem_kidsC.1 hc
   have h2 := mem_kidsC.1 hc2
   rcases UpC.two hn (hup c hc x hx) (hup c2 hc2 x hy) with hu | hu
   ·exact hne (hu.sib ho (ho c h1.1) (ho c2 h2.1) (h1.2.trans h2.2.symm))
   ·exact hne (hu.sib ho (ho c2 h2.1) (ho c h1.1) (h2.2.trans h1.2.symm)).symm
theorem listC_nodup {pg : List Cl} (hn : NdC pg) (ho : ∀ c ∈ pg, clOk c = true) : (listC pg).Nodup := walkC_nodup hn ho _ _
theorem listC_len {pg : List Cl} (hn : NdC pg) (ho : ∀ c ∈ pg, clOk c = true) : (listC pg).length ≤ pg.length := nodup_len2 _ _ (listC_nodup hn ho) fun _ hc => walkC_mem hc
end Dg
namespace Dg
theorem proper_id {x : It} (h : properI x = true) : isNameB x.id = true ∧ isNumB x.number = true := by
 unfold properI at h
 split at h
 ·simp only [Bool.and_eq_true] at h; exact ⟨h.2.1, h.1⟩
 ·split at h
  ·simp only [Bool.and_eq_true] at h; exact ⟨h.2.1, h.1⟩
  ·cases h
end Dg
namespace Dg
structure okP (l : List It) (p : Pt) : Prop where
 valid : validC l = true
 formed : formedP p = true
 ins : p.kind = 1 → idxI l p.id = none ∧ existsP l p = true ∧ l.length < 2000
 item : p.kind ≠ 1 → ∃ y ∈ l, y.id = p.id ∧ (y.kind = 1 → p.kind = 3 ∨ p.kind = 4) ∧ (p.kind = 6 → y.gone = true) ∧ (p.kind ≠ 6 → y.gone = false)
 move : p.kind = 4 → existsP l p = true ∧ p.parent ≠ p.id ∧ p.after ≠ p.id ∧ (p.parent ≠ nil8 → underN l p.parent p.id = false)
 texts : p.kind = 7 → p.item.north.size ≤ 400 ∧ p.item.south.size ≤ 400
def newI (p : Pt) (y : It) : It :=
 if p.kind = 1 then p.item else if p.kind = 3 then { y with number := p.number } else if p.kind = 4 then { y with parent := p.parent }
 else if p.kind = 7 then { y with north := p.item.north, south := p.item.south } else { y with gone := decide (p.kind = 5) }
def kidsP (p : Pt) (q : ByteArray) (ks : List ByteArray) : List ByteArray :=
 if p.kind = 1 then (if q = p.parent then insK p.after p.id ks else ks)
 else if p.kind = 4 then (if q = p.parent then insK p.after p.id (outK p.id ks) else outK p.id ks) else ks
structure Eff (l : List It) (p : Pt) (l' : List It) : Prop where
 valid : validC l' = true
 kids : ∀ q, kids l' q = kidsP p q (kids l q)
 items : ∀ y, y ∈ l' ↔ y = newI p (itemA l p.id) ∨ (y ∈ l ∧ y.id ≠ p.id)
 len : l'.length = if p.kind = 1 then l.length + 1 else l.length
theorem formed_kind {p : Pt} (h : formedP p = true) : p.kind = 1 ∨ p.kind = 3 ∨ p.kind = 4 ∨ p.kind = 5 ∨ p.kind = 6 ∨ p.kind = 7 := by
 unfold formedP at h
 by_cases h1 : p.kind = 1
 ·exact Or.inl h1
 ·rw [if_neg h1] at h
  by_cases h3 : p.kind = 3
  ·exact Or.inr (Or.inl h3)
  ·rw [if_neg h3] at h
   by_cases h4 : p.kind = 4
   ·exact Or.inr (Or.inr (Or.inl h4))
   ·rw [if_neg h4] at h
    by_cases h5 : p.kind = 5 ∨ p.kind = 6
    ·rcases h5 with h5 | h5
     ·exact Or.inr (Or.inr (Or.inr (Or.inl h5)))
     ·exact Or.inr (Or.inr (Or.inr (Or.inr (Or.inl h5))))
    ·rw [if_neg h5] at h
     by_cases h7 : p.kind = 7
     ·exact Or.inr (Or.inr (Or.inr (Or.inr (Or.inr h7))))
     ·rw [if_neg h7] at h
      cases h
theorem set_items {l : List It} (hv : validC l = true) {i : Nat} (hi : i < l.length) {y' : It} (hid : y'.id = l[i].id) (y : It) : y ∈ l.set i y' ↔ y = y' ∨ (y ∈ l ∧ y.id ≠ l[i].id) := by
 constructor
 ·intro h
  obtain ⟨k, hk, rfl⟩ := List.mem_iff_getElem.1 h
  rw [List.length_set] at hk
  rw [List.getElem_set]
  by_cases e : i = k
  ·rw [if_pos e]; exact Or.inl rfl
  ·rw [if_neg e]
   exact Or.inr ⟨List.getElem_mem hk, fun he => e (id_inj hv hi hk he.symm)⟩
 ·rintro (rfl | ⟨h, hne⟩)
  ·exact List.mem_iff_getElem.2 ⟨i, by rw [List.length_set]; exact hi, by rw [List.getElem_set, if_pos rfl]⟩
  ·obtain ⟨k, hk, rfl⟩ := List.mem_iff_getElem.1 h
   refine List.mem_iff_getElem.2 ⟨k, by rw [List.length_set]; exact hk, ?_⟩
   rw [List.getElem_set, if_neg]
   intro e
   subst e
   exact hne rfl
theorem set_eff {l : List It} (hv : validC l = true) {p : Pt} {i : Nat} (hi : i < l.length) (hid : l[i].id = p.id) (hk1 : p.kind ≠ 1) (hk4 : p.kind ≠ 4) {y' : It} (hy : newI p l[i] = y') (hl : likeI l[i] y') : Eff l p (l.set i y') := by
 obtain ⟨e1, e2, e3, _⟩ := hl
 refine ⟨set_valid hv hi ⟨e1, e2, e3, by assumption⟩, fun q => ?_, fun y => ?_, ?_⟩
 ·unfold kidsP
  rw [if_neg hk1, if_neg hk4]
  exact kids_set hi e1.symm e2.symm q
 ·have hA : itemA l p.id = l[i] := by rw [← hid]; exact itemA_mem hv (List.getElem_mem hi)
  rw [hA, hy, ← hid]
  exact set_items hv hi e1.symm y
 ·rw [if_neg hk1, List.length_set]
theorem proper_number {n : ByteArray} (h : validC [⟨1, sDd, nil8, n, nil8, nil8, false⟩] = true) {x : It} (hx : properI x = true) : properI { x with number := n } = true := by
 have h1 := valid_proper h _ (List.mem_singleton.2 rfl)
 have h2 : isNumB n = true := (proper_id h1).2
 have h4 : isNumB x.number = true := (proper_id hx).2
 unfold properI at hx ⊢
 simp only [h2, h4] at hx ⊢
 exact hx
theorem like_number {n : ByteArray} (h : validC [⟨1, sDd, nil8, n, nil8, nil8, false⟩] = true) (x : It) : likeI x { x with number := n } := ⟨rfl, rfl, rfl, fun hx => proper_number h hx⟩
theorem like_gone {x : It} (hk : x.kind ≠ 1) (g : Bool) : likeI x { x with gone := g } := ⟨rfl, rfl, rfl, fun hx => by
 unfold properI at hx ⊢
 simp only at hx ⊢
 rw [if_neg hk] at hx ⊢
 exact hx⟩
theorem like_texts {x : It} (hk : x.kind ≠ 1) {a b : ByteArray} (ha : a.size ≤ 400) (hb : b.size ≤ 400) : likeI x { x with north := a, south := b } := ⟨rfl, rfl, rfl, fun hx => by
 unfold properI at hx ⊢
 simp only at hx ⊢
 rw [if_neg hk] at hx ⊢
 split at hx
 ·rename_i h2
  rw [if_pos h2]
  simp only [Bool.and_eq_true, decide_eq_true_eq] at hx ⊢
  exact ⟨hx.1, hx.2.1, ha, hb⟩
 ·cases hx⟩
theorem apply_of_ok {l : List It} {p : Pt} (h : okP l p) : ∃ l', applyP l p = (l', 0) ∧ Eff l p l' := by
 have hv := h.valid
 have hf := h.formed
 unfold applyP
 rw [if_neg (by rw [hv, hf]; simp)]
 by_cases hk1 : p.kind = 1
 ·rw [if_pos hk1]
  obtain ⟨h1, h2, h3⟩ := h.ins hk1
  have e : insertP l p = (putP l p [p.item], 0) := by
   unfold insertP
   rw [if_neg (by rw [h1]; simp), if_neg (by rw [h2]; simp), if_neg (by omega)]
  obtain ⟨g1, g2, g3, g4⟩ := insert_eff hv hk1 hf e
  refine ⟨_, e, g1, fun q => ?_, fun y => ?_, by rw [if_pos hk1]; exact g4⟩
  ·rw [g2 q]; unfold kidsP; rw [if_pos hk1]
  ·rw [g3 y]
   unfold newI
   rw [if_pos hk1]
   exact ⟨fun hh => hh.imp id fun hy => ⟨hy, idxI_none h1 y hy⟩, fun hh => hh.imp id (·.1)⟩
 ·rw [if_neg hk1]
  obtain ⟨y, hy, hid, c1, c2, c3⟩ := h.item hk1
  obtain ⟨i, hi, rfl⟩ := List.mem_iff_getElem.1 hy
  have hix : idxI l p.id = some i := by rw [← hid]; exact idxI_at hv hi
  have hg : l.getD i zeroI = l[i] := by rw [List.getD_eq_getElem?_getD, List.getElem?_eq_getElem hi, Option.getD_some]
  rw [hix]
  simp only [hg]
  have hnd : ¬ (l[i].kind = 1 ∧ p.kind ≠ 3 ∧ p.kind ≠ 4) := fun ⟨a, b, c⟩ => (c1 a).elim b c
  rw [if_neg hnd, if_neg (fun ⟨a, b⟩ => by rw [c2 a] at b; cases b), if_neg (fun ⟨a, b⟩ => by rw [c3 a] at b; cases b)]
  have hfk := formed_kind hf
  by_cases hk3 : p.kind = 3
  ·rw [if_pos hk3]
   have hnum : validC [⟨1, sDd, nil8, p.number, nil8, nil8, false⟩] = true := by
    have h9 := hf
    unfold formedP at h9
    rw [if_neg hk1, if_pos hk3, Bool.and_eq_true] at h9
    exact h9.2
   exact ⟨_, rfl, set_eff hv hi hid hk1 (by rw [hk3]; decide) (by unfold newI; rw [if_neg hk1, if_pos hk3]) (like_number hnum _)⟩
  ·rw [if_neg hk3]
   by_cases hk4 : p.kind = 4
   ·rw [if_pos hk4]
    obtain ⟨m1, m2, m3, m4⟩ := h.move hk4
    have e : ∃ l', moveP l p i l[i] = (l', 0) := by
     unfold moveP
     rw [if_neg]
     ·exact ⟨_, rfl⟩
     ·rintro (a | a | a | ⟨a, b⟩)
      ·rw [m1] at a; cases a
      ·exact m2 a
      ·exact m3 a
      ·rw [m4 a] at b; cases b
    obtain ⟨l', e⟩ := e
    obtain ⟨g1, g2, g3, g4⟩ := move_eff hv hi hid e
    refine ⟨l', e, g1, fun q => ?_, fun y => ?_, by rw [if_neg hk1]; exact g4⟩
    ·rw [g2 q]; unfold kidsP; rw [if_neg hk1, if_pos hk4]
    ·rw [g3 y]
     unfold newI
     rw [if_neg hk1, if_neg hk3, if_pos hk4]
     have hA : itemA l p.id = l[i] := by rw [← hid]; exact itemA_mem hv (List.getElem_mem hi)
     rw [hA]
   ·rw [if_neg hk4]
    have hne : l[i].kind ≠ 1 := fun e => hnd ⟨e, hk3, hk4⟩
    by_cases hk7 : p.kind = 7
    ·obtain ⟨t1, t2⟩ := h.texts hk7
     rw [if_pos hk7, if_neg (by omega)]
     exact ⟨_, rfl, set_eff hv hi hid hk1 hk4 (by unfold newI; rw [if_neg hk1, if_neg hk3, if_neg hk4, if_pos hk7]) (like_texts hne t1 t2)⟩
    ·rw [if_neg hk7]
     exact ⟨_, rfl, set_eff hv hi hid hk1 hk4 (by unfold newI; rw [if_neg hk1, if_neg hk3, if_neg hk4, if_neg hk7]) (like_gone hne _)⟩
theorem ok_of_apply {l : List It} {p : Pt} {l' : List It} (h : applyP l p = (l', 0)) : okP l p := by
 unfold applyP at h
 split at h
 ·injection h with _ h; exact absurd h (by decide)
 rename_i hvf
 have hv : validC l = true := by
  cases hv : validC l with
  | true => rfl
  | false => exact absurd (Or.inl hv) hvf
 have hf : formedP p = true := by
  cases hf : formedP p with
  | true => rfl
  | false => exact absurd (Or.inr hf) hvf
 by_cases hk1 : p.kind = 1
 ·rw [if_pos hk1] at h
  refine ⟨hv, hf, fun _ => ?_, fun hh => absurd hk1 hh, fun hh => by rw [hk1] at hh; exact absurd hh (by decide), fun hh => by rw [hk1] at hh; exact absurd hh (by decide)⟩
  unfold insertP at h
  split at h
  ·injection h with _ h; exact absurd h (by decide)
  rename_i g1
  split at h
  ·injection h with _ h; exact absurd h (by decide)
  rename_i g2
  split at h
  ·injection h with _ h; exact absurd h (by decide)
  rename_i g3
  refine ⟨?_, by simpa using g2, by omega⟩
  cases hi : idxI l p.id with
  | none => rfl
  | some i => rw [hi] at g1; exact absurd rfl g1
 ·rw [if_neg hk1] at h
  cases hix : idxI l p.id with
  | none =>
   rw [hix] at h
   injection h with _ h
   exact absurd h (by decide)
  | some i =>
   rw [hix] at h
   obtain ⟨hi, hid⟩ := idxI_some hix
   have hg : l.getD i zeroI = l[i] := by rw [List.getD_eq_getElem?_getD, List.getElem?_eq_getElem hi, Option.getD_some]
   simp only [hg] at h
   split at h
   ·injection h with _ h; exact absurd h (by decide)
   rename_i c1
   split at h
   ·injection h with _ h; exact absurd h (by decide)
   rename_i c2
   split at h
   ·injection h with _ h; exact absurd h (by decide)
   rename_i c3
   refine ⟨hv, hf, fun hh => absurd hh hk1, fun _ => ⟨l[i], List.getElem_mem hi, hid, fun a => ?_, fun a => ?_, fun a => ?_⟩, fun hk4 => ?_, fun hk7 => ?_⟩
   ·by_cases h3 : p.kind = 3
    ·exact Or.inl h3
    ·by_cases h4 : p.kind = 4
     ·exact Or.inr h4
     ·exact absurd ⟨a, h3, h4⟩ c1
   ·cases hgn : l[i].gone with
    | true => rfl
    | false => exact absurd ⟨a, hgn⟩ c2
   ·cases hgn : l[i].gone with
    | false => rfl
    | true => exact absurd ⟨a, hgn⟩ c3
   ·rw [if_neg (by rw [hk4]; decide), if_pos hk4] at h
    unfold moveP at h
    split at h
    ·injection h with _ h; exact absurd h (by decide)
    rename_i hm
    refine ⟨?_, fun e => hm (Or.inr (Or.inl e)), fun e => hm (Or.inr (Or.inr (Or.inl e))), fun hne => ?_⟩
    ·cases he : existsP l p with
     | true => rfl
     | false => exact absurd (Or.inl he) hm
    ·cases hu : underN l p.parent p.id with
     | false => rfl
     | true => exact absurd (Or.inr (Or.inr (Or.inr ⟨hne, hu⟩))) hm
   ·rw [if_neg (by rw [hk7]; decide), if_neg (by rw [hk7]; decide), if_pos hk7] at h
    split at h
    ·injection h with _ h; exact absurd h (by decide)
    rename_i ht
    omega
end Dg
namespace Dg
def numP (d n : ByteArray) : Pt := { barePt 3 d with number := n }
end Dg
namespace Dg
theorem proper_div {x : It} (h : properI x = true) (hk : x.kind = 1) : x.north = nil8 ∧ x.south = nil8 ∧ x.gone = false := by
 rcases proper_kind h with e | e
 ·exact ⟨e.2.2.1, e.2.2.2, e.2.1⟩
 ·rw [hk] at e
  exact absurd e.1 (by decide)
theorem proper_len {x : It} (h : properI x = true) : x.north.size ≤ 400 ∧ x.south.size ≤ 400 := by
 rcases proper_kind h with e | e
 ·rw [e.2.2.1, e.2.2.2]
  exact ⟨by decide, by decide⟩
 ·exact e.2
end Dg
namespace Dg
theorem up_at {t2 : List It} (hv : validC t2 = true) {i : Nat} (hi : i < t2.length) : t2[i].parent = nil8 ∨ ∃ j, ∃ hj : j < t2.length, j < i ∧ t2[j].id = t2[i].parent ∧ t2[j].kind = 1 := by
 obtain ⟨s, hw, _⟩ := valid_walk hv
 rcases visit_up (Nat.le_refl _) hw hi with ⟨h1, _⟩ | ⟨_, j, x, o, hj, hx, hxi, hxk, _, _⟩
 ·exact Or.inl h1
 ·obtain ⟨hl, e⟩ := List.getElem?_eq_some_iff.1 hx
  exact Or.inr ⟨j, hl, hj, by rw [e]; exact hxi, by rw [e]; exact hxk⟩
end Dg
namespace Dg
def formed2 (p : Pt) : Bool := decide (p = { barePt p.kind p.id with lang := p.lang, src := p.src, dst := p.dst }) && (!decide (p.src = nil8) && decide (p.lang = 1 ∨ p.lang = 2))
def onceB (t s : ByteArray) : Bool := decide (0 ≤ Lib.index t.data.toList s.data.toList ∧ Lib.lastIndex t.data.toList s.data.toList = Lib.index t.data.toList s.data.toList)
def wordT (t s r : ByteArray) : ByteArray := t.extract 0 (Lib.index t.data.toList s.data.toList).toNat ++ r ++ t.extract ((Lib.index t.data.toList s.data.toList).toNat + s.size) t.size
def wordsP (l : List It) (p : Pt) (i : Nat) (y : It) : List It × Int :=
 if onceB (if p.lang = 1 then y.north else y.south) p.src = false then ([], 15)
 else if 400 < (wordT (if p.lang = 1 then y.north else y.south) p.src p.dst).size then ([], 2)
 else (l.set i (if p.lang = 1 then { y with north := wordT y.north p.src p.dst } else { y with south := wordT y.south p.src p.dst }), 0)
def applyW (l : List It) (p : Pt) : List It × Int :=
 if p.kind = 2 then
  if validC l = false ∨ formed2 p = false then ([], 1)
  else match idxI l p.id with
   | none => ([], 11)
   | some i =>
    if (l.getD i zeroI).kind = 1 then ([], 11)
    else if (l.getD i zeroI).gone = true then ([], 16)
    else wordsP l p i (l.getD i zeroI)
 else applyP l p
def allG : List It → List Pt → List It × Int
 | l, [] => (l, 0)
 | l, p :: ps => if (applyW l p).2 = 0 then allG (applyW l p).1 ps else ([], (applyW l p).2)
def allW (l : List It) (ps : List Pt) : List It × Int := if validC l = false then ([], 1) else allG l ps
def openL (l : List Cl) : List Cl := l.filter fun c => !c.gone
def seatOk (s : Sp) : Bool := decide (0 ≤ s.seat ∧ s.seat < 100)
def movS (s : Sp) (k : Int) : Sp := ⟨s.seat + k, s.count⟩
def movC (c : Cl) (k : Int) : Cl := { c with id := movS c.id k, after := if c.after = Sp0 then Sp0 else movS c.after k }
def movOk (c : Cl) : Bool := seatOk c.id && (decide (c.after = Sp0) || seatOk c.after)
def movedC (l : List Cl) (k : Int) : Option (List Cl) := if l.all movOk then some (l.map (movC · k)) else none
def putsC : List Cl → List Cl → List Cl × Int
 | pg, [] => (pg, 0)
 | pg, c :: l => if (putC pg c).2 = 0 then putsC (putC pg c).1 l else ([], (putC pg c).2)
def joinC (srt : List Cl → List Cl) (a b : List Cl) : List Cl × Int :=
 match movedC a 0, movedC b 100 with
 | some x, some y => if (putsC [] (srt (x ++ y))).2 = 0 then (listC (putsC [] (srt (x ++ y))).1, 0) else ([], (putsC [] (srt (x ++ y))).2)
 | _, _ => ([], 1)
def takenC : List It → List Cl → List Pt × List Sp
 | _, [] => ([], [])
 | l, c :: r => if (applyW l c.patch).2 = 0 then (c.patch :: (takenC (applyW l c.patch).1 r).1, (takenC (applyW l c.patch).1 r).2)
  else ((takenC l r).1, c.id :: (takenC l r).2)
theorem taken_count : ∀ (l : List It) (r : List Cl), (takenC l r).1.length + (takenC l r).2.length = r.length
 | _, [] => rfl
 | l, c :: r => by
  unfold takenC
  split
  ·have := taken_count (applyW l c.patch).1 r
   simp only [List.length_cons] at *
   omega
  ·have := taken_count l r
   simp only [List.length_cons] at *
   omega
theorem taken_all : ∀ (l : List It) (r : List Cl), (allG l (takenC l r).1).2 = 0
 | _, [] => rfl
 | l, c :: r => by
  unfold takenC
  split
  ·rename_i h
   show (allG l (c.patch :: _)).2 = 0
   rw [allG, if_pos h]
   exact taken_all _ r
  ·exact taken_all l r
def clashB (l : List It) (a b : Pt) : Bool :=
 decide ((allW l [a]).2 = 0 ∧ (allW l [b]).2 = 0 ∧ ((allW l [a, b]).2 ≠ 0 ∨ (allW l [b, a]).2 ≠ 0 ∨ (allW l [a, b]).1 ≠ (allW l [b, a]).1))
def clashR (l : List It) (c : Cl) (r : List Cl) : List (Sp × Sp) := (r.filter fun d => clashB l c.patch d.patch).map fun d => (c.id, d.id)
def clashC (l : List It) : List Cl → List (Sp × Sp)
 | [] => []
 | c :: r => clashR l c r ++ clashC l r
theorem words_valid {l : List It} {p : Pt} {i : Nat} {l' : List It} (hv : validC l = true) (hi : idxI l p.id = some i) (hk : (l.getD i zeroI).kind ≠ 1) (hg : (l.getD i zeroI).gone = false) (h : wordsP l p i (l.getD i zeroI) = (l', 0)) : validC l' = true := by
 obtain ⟨hil, hid⟩ := idxI_some hi
 have hy : l.getD i zeroI = l[i] := by rw [List.getD_eq_getElem?_getD, List.getElem?_eq_getElem hil]; rfl
 rw [hy] at hk hg h
 have hx := valid_proper hv _ (List.getElem_mem hil)
 have ht : l[i].north.size ≤ 400 ∧ l[i].south.size ≤ 400 := by
  unfold properI at hx
  rw [if_neg hk] at hx
  split at hx
  ·simp only [Bool.and_eq_true, decide_eq_true_eq] at hx
   exact hx.2.2
  ·cases hx
 unfold wordsP at h
 by_cases h1 : onceB (if p.lang = 1 then l[i].north else l[i].south) p.src = false
 ·rw [if_pos h1] at h
  injection h with _ h; exact absurd h (by decide)
 rw [if_neg h1] at h
 by_cases hs : 400 < (wordT (if p.lang = 1 then l[i].north else l[i].south) p.src p.dst).size
 ·rw [if_pos hs] at h
  injection h with _ h; exact absurd h (by decide)
 rw [if_neg hs] at h
 injection h with h _
 rw [← h]
 refine set_valid hv hil ?_
 by_cases hl : p.lang = 1
 ·rw [if_pos hl] at hs ⊢
  exact like_texts hk (by omega) ht.2
 ·rw [if_neg hl] at hs ⊢
  exact like_texts hk ht.1 (by omega)
theorem applyW_valid {l : List It} {p : Pt} {l' : List It} (h : applyW l p = (l', 0)) : validC l' = true := by
 unfold applyW at h
 split at h
 ·split at h
  ·injection h with _ h; exact absurd h (by decide)
  rename_i hvf
  split at h
  ·injection h with _ h; exact absurd h (by decide)
  rename_i i hi
  split at h
  ·injection h with _ h; exact absurd h (by decide)
  split at h
  ·injection h with _ h; exact absurd h (by decide)
  rename_i hk hg
  exact words_valid (by cases hv : validC l with | true => rfl | false => exact absurd (Or.inl hv) hvf) hi hk (by cases hq : (l.getD i zeroI).gone with | false => rfl | true => exact absurd hq hg) h
 ·obtain ⟨l2, e, hE⟩ := apply_of_ok (ok_of_apply h)
  rw [h] at e
  injection e with e
  rw [e]
  exact hE.valid
end Dg
def clC (c : Dg.Cl) : Array Value := #[.int .i64 c.id.seat, .int .i64 c.id.count, .int .i64 c.after.seat, .int .i64 c.after.count, .int .i64 c.patch.kind, .string c.patch.id, .string c.patch.parent, .string c.patch.after, .string c.patch.number, .int .i64 c.patch.item.kind, .string c.patch.item.id, .string c.patch.item.parent, .string c.patch.item.number, .string c.patch.item.north, .string c.patch.item.south, .bool c.patch.item.gone, .int .i64 c.patch.lang, .string c.patch.src, .string c.patch.dst, .bool c.gone]
def clL : Lay Dg.Cl := ⟨fun x => (clC x).toList, 20, fun _ => rfl, fun x u hu => by
 simp only [clC, List.mem_cons, List.not_mem_nil, or_false] at hu
 rcases hu with rfl | rfl | rfl | rfl | rfl | rfl | rfl | rfl | rfl | rfl | rfl | rfl | rfl | rfl | rfl | rfl | rfl | rfl | rfl | rfl <;> rfl⟩
theorem clauseInfo : (Tryz.prog.info? 55).map (fun i => (i.zero, i.size, i.bytes)) = some (some (.agg (clC Dg.Cl0)), 20, 248) := by kernel_rfl
theorem stamp_of (a b : Int) (w : World) :
  Calls Tryz.prog 82 #[.agg #[.int .i64 a, .int .i64 b]] w fun e w' => e = .returned (.bool (Dg.spOk ⟨a, b⟩)) ∧ Below w.heap.size w w' := by
 have hb := nwB w (.cells #[.int .i64 a, .int .i64 b] 49)
 go_enter func82, ntmps82
 go_wp2
 all_goals go_ret
 all_goals
  show Ending.returned (.bool _) = Ending.returned (.bool (decide (0 ≤ a ∧ a < 200 ∧ 1 ≤ b ∧ b ≤ 1000000))) ∧ _
 all_goals first
  | exact ⟨congrArg (fun b => Ending.returned (.bool b)) (decide_eq_decide.2 (by omega)), hb⟩
  | exact ⟨congrArg (fun b => Ending.returned (.bool b)) (decide_eq_false (by omega)).symm, hb⟩
theorem clOk_zero {c : Dg.Cl} (h1 : c.after.seat = 0) (h2 : c.after.count = 0) : Dg.clOk c = Dg.spOk ⟨c.id.seat, c.id.count⟩ := by
 have e : c.after = Dg.Sp0 := by cases hc : c.after with | mk a b => rw [hc] at h1 h2; cases h1; cases h2; rfl
 unfold Dg.clOk
 rw [decide_eq_true e, Bool.true_or, Bool.true_and]
theorem clOk_some {c : Dg.Cl} {a : Int} (ha : a = c.after.seat) (h : ¬ (c.after.seat = 0 ∧ c.after.count = 0)) : Dg.clOk c = ((Dg.spOk ⟨a, c.after.count⟩ && decide (c.after.count < c.id.count)) && Dg.spOk ⟨c.id.seat, c.id.count⟩) := by
 subst ha
 have e : ¬ c.after = Dg.Sp0 := fun e => h (by rw [e]; exact ⟨rfl, rfl⟩)
 unfold Dg.clOk
 rw [decide_eq_false e, Bool.false_or]
theorem proper_of (c : Dg.Cl) (w : World) :
  Calls Tryz.prog 53 #[.agg (clC c)] w fun e w' => e = .returned (.bool (Dg.clOk c)) ∧ Below w.heap.size w w' := by
 have r1 := heap_alloc_new w (.cells (clC c) 55)
 have hb := nwB w (.cells (clC c) 55)
 have hs : (w.alloc (.cells (clC c) 55)).heap.size = w.heap.size + 1 := by simp
 have ld : ∀ W' : World, W'.heap[w.heap.size]? = some (.cells (clC c) 55 (0, 0)) → ∀ (o : Nat) (u : Value), (clC c)[o]? = some u → W'.cell? ⟨w.heap.size, o, none⟩ = some u := fun W' h o u hu => by
  rw [cell_of_row _ _ _ _ _ (0, 0) h]
  exact hu
 have l0 := ld _ r1 0 (.int .i64 c.id.seat) rfl
 have l1 := ld _ r1 1 (.int .i64 c.id.count) rfl
 have l2 := ld _ r1 2 (.int .i64 c.after.seat) rfl
 have l3 := ld _ r1 3 (.int .i64 c.after.count) rfl
 go_enter func53, ntmps53
 go_wp2_with fail
 ·refine (stamp_of _ _ _).mono ?_
  rintro e w2 ⟨rfl, hb2⟩
  go_wp2
  all_goals go_ret
  all_goals refine ⟨congrArg (fun b => Ending.returned (.bool b)) ?_, bnext hb hb2⟩
  all_goals rw [clOk_zero ‹_› ‹_›]
  all_goals simp only [*]
 all_goals
  refine (stamp_of _ _ _).mono ?_
  rintro e w2 ⟨rfl, hb2⟩
  have g0 := (hb2.cell (p := ⟨_, 0, none⟩) (by rw [hs]; exact Nat.lt_succ_self _)).trans l0
  have g1 := (hb2.cell (p := ⟨_, 1, none⟩) (by rw [hs]; exact Nat.lt_succ_self _)).trans l1
  have g3 := (hb2.cell (p := ⟨_, 3, none⟩) (by rw [hs]; exact Nat.lt_succ_self _)).trans l3
  go_wp2_with fail
  all_goals
   refine (stamp_of _ _ _).mono ?_
   rintro e w3 ⟨rfl, hb3⟩
   go_wp2
   all_goals go_ret
   all_goals refine ⟨congrArg (fun b => Ending.returned (.bool b)) ?_, bnext (bnext hb hb2) hb3⟩
   all_goals first
    | rw [clOk_some (a := 0) (by omega) (by omega)]
    | rw [clOk_some rfl (by omega)]
   all_goals simp only [*, Bool.and_true, Bool.and_false, Bool.true_and, Bool.false_and]
def sameS (p q : Dg.Sp) : Bool := (p.seat == q.seat) && (p.count == q.count)
theorem sameS_iff (p q : Dg.Sp) : sameS p q = true ↔ p = q := by
 unfold sameS
 rw [Bool.and_eq_true, beq_iff_eq, beq_iff_eq]
 cases p; cases q
 simp
def sameCl (x y : Dg.Cl) : Bool := sameS x.id y.id && (sameS x.after y.after && (sameP x.patch y.patch && (x.gone == y.gone)))
theorem sameCl_iff (x y : Dg.Cl) : sameCl x y = true ↔ x = y := by
 unfold sameCl
 rw [Bool.and_eq_true, Bool.and_eq_true, Bool.and_eq_true, sameS_iff, sameS_iff, sameP_iff, beq_iff_eq]
 cases x; cases y
 simp
theorem sameCl_dec (x y : Dg.Cl) : sameCl x y = decide (x = y) := by
 rw [Bool.eq_iff_iff, sameCl_iff, decide_eq_true_iff]
theorem stamp_eqIn (d : Nat) (w : World) (a b a' b' : Int) : (Op.equalIn (d + 2) 49 (.agg #[.int .i64 a, .int .i64 b]) (.agg #[.int .i64 a', .int .i64 b'])).run Tryz.prog w = .ok (sameS ⟨a, b⟩ ⟨a', b'⟩) w := by
 have hS : Tryz.prog.underlying 49 = some (.struct (Tryz.prog.fieldsOf 49)) := by kernel_rfl
 have hp : Tryz.prog.stoodInHeld 49 = false := by kernel_rfl
 rw [run_equalIn_struct w (d + 1) 49 _ _ hS hp]
 simp only [Program.fieldsOf, underlying49]
 have u3 := underlying3
 have a3 := Tryz.isAgg3
 have z3 := Tryz.sizeOf3
 go_simp
 unfold sameS
 by_cases h1 : a = a' <;> by_cases h2 : b = b' <;> simp [h1, h2]
theorem patch_eqIn (d : Nat) (w : World) (p q : Dg.Pt) : (Op.equalIn (d + 4) 53 (.agg (Rq0 p)) (.agg (Rq0 q))).run Tryz.prog w = .ok (sameP p q) w := by
 have hS : Tryz.prog.underlying 53 = some (.struct (Tryz.prog.fieldsOf 53)) := by kernel_rfl
 have hp : Tryz.prog.stoodInHeld 53 = false := by kernel_rfl
 rw [run_equalIn_struct w (d + 3) 53 _ _ hS hp]
 simp only [Program.fieldsOf, underlying53]
 have u3 := underlying3
 have u5 := underlying9
 have a3 := Tryz.isAgg3
 have a5 := Tryz.isAgg9
 have a7 := Tryz.isAgg51
 have z3 := Tryz.sizeOf3
 have z5 := Tryz.sizeOf9
 have z7 := Tryz.sizeOf51
 have hI := fun (w : World) => item_eqIn (d + 1) w p.item q.item
 go_simp
 unfold sameP
 by_cases h1 : p.kind = q.kind
 case neg => simp [h1]
 by_cases h2 : p.id.toList = q.id.toList
 case neg => simp [h1, h2]
 by_cases h3 : p.parent.toList = q.parent.toList
 case neg => simp [h1, h2, h3]
 by_cases h4 : p.after.toList = q.after.toList
 case neg => simp [h1, h2, h3, h4]
 by_cases h5 : p.number.toList = q.number.toList
 case neg => simp [h1, h2, h3, h4, h5]
 by_cases h6 : sameI p.item q.item = true
 case neg => simp [h1, h2, h3, h4, h5, h6]
 by_cases h7 : p.lang = q.lang
 case neg => simp [h1, h2, h3, h4, h5, h6, h7]
 by_cases h8 : p.src.toList = q.src.toList
 case neg => simp [h1, h2, h3, h4, h5, h6, h7, h8]
 by_cases h9 : p.dst.toList = q.dst.toList
 case neg => simp [h1, h2, h3, h4, h5, h6, h7, h8, h9]
 simp [h1, h2, h3, h4, h5, h6, h7, h8, h9]
theorem clause_eqIn (d : Nat) (w : World) (x y : Dg.Cl) : (Op.equalIn (d + 5) 55 (.agg (clC x)) (.agg (clC y))).run Tryz.prog w = .ok (sameCl x y) w := by
 have hS : Tryz.prog.underlying 55 = some (.struct (Tryz.prog.fieldsOf 55)) := by kernel_rfl
 have hp : Tryz.prog.stoodInHeld 55 = false := by kernel_rfl
 rw [run_equalIn_struct w (d + 4) 55 _ _ hS hp]
 simp only [Program.fieldsOf, underlying55]
 have u4 := underlying4
 have a4 := Tryz.isAgg4
 have z4 := Tryz.sizeOf4
 have a5 := Tryz.isAgg49
 have z5 := Tryz.sizeOf49
 have a7 := Tryz.isAgg53
 have z7 := Tryz.sizeOf53
 have hA := fun (w : World) => stamp_eqIn (d + 2) w x.id.seat x.id.count y.id.seat y.id.count
 have hB := fun (w : World) => stamp_eqIn (d + 2) w x.after.seat x.after.count y.after.seat y.after.count
 have hI := fun (w : World) => patch_eqIn d w x.patch y.patch
 unfold clC
 go_simp
 unfold sameCl
 by_cases h1 : sameS x.id y.id = true
 case neg => simp [h1]
 by_cases h2 : sameS x.after y.after = true
 case neg => simp [h1, h2]
 by_cases h3 : sameP x.patch y.patch = true
 case neg => simp [h1, h2, h3]
 by_cases h4 : x.gone = y.gone
 case neg => simp [h1, h2, h3, h4]
 simp [h1, h2, h3, h4]
theorem clause_run (w : World) (x y : Dg.Cl) : (binOp .eql 55 (.agg (clC x)) (.agg (clC y))).run Tryz.prog w = .ok (.bool (decide (x = y))) w := by
 rw [run_eql_struct, clause_eqIn 9995, sameCl_dec]
 rfl
theorem validF_of (x : Dg.It) (hx : ItW x) (w : World) (R : Bool) (hR : Dg.validC [x] = R) :
  Calls Tryz.prog 86 #[.agg (Rq4 x)] w fun e w' => e = .returned (.bool R) ∧ Below w.heap.size w w' := by
 have r1 := heap_alloc_new w (.cells (Rq4 x) 51)
 have hb1 := nwB w (.cells (Rq4 x) 51)
 have HR := hide hR; have HX := hide hx
 clear hR hx
 have hRI := hide (range_of r1 0 (Rq4 x) rfl)
 go_enter func86, ntmps86
 go_upto_region 1 with (fail)
 generalize w.alloc (.cells (Rq4 x) 51) = w1 at *
 go_wp2_with (with_reducible refine wpList_load_mid rfl 51 (.tmp 1) rfl w.heap.size 0 rfl _ _ hRI.out underlying51 rfl (by kernel_rfl) ?_)
 have hbn := nwB w1 (.cells (Rq4 x) 51)
 have hO : Own1 iLay 51 (w1.alloc (.cells (Rq4 x) 51)) w1.heap.size (.slice (some ⟨w1.heap.size, 0, none⟩) 1 1) [x] := Own1.mk (L := iLay) (l := [x]) (sp := []) (Nat.le_refl _) (heap_alloc_new w1 _) (by unfold maxLen; decide) (Nat.le_refl _) rfl
 obtain ⟨A, c, e, hI, _⟩ := hO.row
 injection e with e e1 ec
 clear e1
 subst e ec
 have HI := hide hI.its
 have hb2 := bnext hb1 hbn
 clear hO hI hbn hRI r1 hb1
 generalize w1.alloc (.cells (Rq4 x) 51) = w2 at *
 refine (Code.valid_of [x] (some ⟨w1.heap.size, 0, none⟩) 1 1 rfl (fun z hz => by rw [List.mem_singleton.1 hz]; exact HX.out) (by decide) w2 HI.out R HR.out).mono ?_
 rintro e w3 ⟨rfl, hb3⟩
 have hb4 := bnext hb2 hb3
 clear hb3 HI hb2
 go_wp2
 go_ret
 exact ⟨rfl, hb4⟩
attribute [-go_sem] Instr.storeAt in
attribute [-go_sem] run_eql_struct in
theorem formed_5 (p : Dg.Pt) (R1 : Bool) (hR1 : sameP p (Dg.barePt p.kind p.id) = R1) (k1 : (p.kind == 1) = false) (k2 : (p.kind == 2) = false) (k3 : (p.kind == 3) = false) (k4 : (p.kind == 4) = false) (k5 : (p.kind == 5) = true) (w : World) :
  Calls Tryz.prog 61 #[.agg (Rq0 p)] w fun e w' => e = .returned (.bool R1) ∧ Below w.heap.size w w' := by
 have r1 := heap_alloc_new w (.cells (Rq0 p) 53)
 have hb1 := nwB w (.cells (Rq0 p) 53)
 have hmx := hmxQ
 have HR1 := hide hR1
 clear hR1
 go_enter func61, ntmps61
 go_upto_region 1 with (fail)
 generalize w.alloc (.cells (Rq0 p) 53) = w1 at *
 have hcs := jC15 r1
 have c0 := hcs.1; have c1 := hcs.2.1
 clear hcs
 have hst := store_new (ty := 53) (T := 53) w1 Rq2 (Rq7 p) (by kernel_rfl) rfl (all_oneCell_toArray (ptL.one (Dg.barePt p.kind p.id)))
 have r3 := heap_alloc_new w1 (.cells (Rq7 p) 53)
 have hbn := nwB w1 (.cells (Rq7 p) 53)
 have r12 := iNext r1 hbn
 have hb2 := bnext hb1 hbn
 have hsz := lt_of_block r1
 go_upto_region 20 with (fail)
 clear hst c1 hbn hb1 r1
 obtain ⟨b3, hb3⟩ : ∃ b3, b3 = w1.heap.size := ⟨_, rfl⟩
 have HB3 := hide hb3
 rw [← hb3] at r3 hsz ⊢
 clear hb3
 generalize w1.alloc (.cells (Rq7 p) 53) = w2 at *
 clear HB3
 clear c0
 have hpr : ∀ w, (binOp .eql 53 (.agg (Rq0 p)) (.agg (Rq7 p))).run Tryz.prog w = .ok (.bool R1) w := fun w => by rw [← HR1.out]; exact patch_run w p (Dg.barePt p.kind p.id)
 have hL1 := hide (range_of r12 0 (Rq0 p) rfl)
 have hL3 := hide (range_of r3 0 (Rq7 p) rfl)
 go_wp2_with (first | (with_reducible refine wpList_load_mid rfl 53 (.tmp 1) rfl w.heap.size 0 rfl _ _ hL1.out underlying53 rfl (by kernel_rfl) ?_) | (with_reducible refine wpList_load_mid rfl 53 (.tmp 3) rfl b3 0 rfl _ _ hL3.out underlying53 rfl (by kernel_rfl) ?_))
 go_ret
 exact ⟨rfl, hb2⟩
attribute [-go_sem] Instr.storeAt in
attribute [-go_sem] run_eql_struct in
theorem formed_6 (p : Dg.Pt) (R1 : Bool) (hR1 : sameP p (Dg.barePt p.kind p.id) = R1) (k1 : (p.kind == 1) = false) (k2 : (p.kind == 2) = false) (k3 : (p.kind == 3) = false) (k4 : (p.kind == 4) = false) (k5 : (p.kind == 5) = false) (k6 : (p.kind == 6) = true) (w : World) :
  Calls Tryz.prog 61 #[.agg (Rq0 p)] w fun e w' => e = .returned (.bool R1) ∧ Below w.heap.size w w' := by
 have r1 := heap_alloc_new w (.cells (Rq0 p) 53)
 have hb1 := nwB w (.cells (Rq0 p) 53)
 have hmx := hmxQ
 have HR1 := hide hR1
 clear hR1
 go_enter func61, ntmps61
 go_upto_region 1 with (fail)
 generalize w.alloc (.cells (Rq0 p) 53) = w1 at *
 have hcs := jC15 r1
 have c0 := hcs.1; have c1 := hcs.2.1
 clear hcs
 have hst := store_new (ty := 53) (T := 53) w1 Rq2 (Rq7 p) (by kernel_rfl) rfl (all_oneCell_toArray (ptL.one (Dg.barePt p.kind p.id)))
 have r3 := heap_alloc_new w1 (.cells (Rq7 p) 53)
 have hbn := nwB w1 (.cells (Rq7 p) 53)
 have r12 := iNext r1 hbn
 have hb2 := bnext hb1 hbn
 have hsz := lt_of_block r1
 go_upto_region 20 with (fail)
 clear hst c1 hbn hb1 r1
 obtain ⟨b3, hb3⟩ : ∃ b3, b3 = w1.heap.size := ⟨_, rfl⟩
 have HB3 := hide hb3
 rw [← hb3] at r3 hsz ⊢
 clear hb3
 generalize w1.alloc (.cells (Rq7 p) 53) = w2 at *
 clear HB3
 clear c0
 have hpr : ∀ w, (binOp .eql 53 (.agg (Rq0 p)) (.agg (Rq7 p))).run Tryz.prog w = .ok (.bool R1) w := fun w => by rw [← HR1.out]; exact patch_run w p (Dg.barePt p.kind p.id)
 have hL1 := hide (range_of r12 0 (Rq0 p) rfl)
 have hL3 := hide (range_of r3 0 (Rq7 p) rfl)
 go_wp2_with (first | (with_reducible refine wpList_load_mid rfl 53 (.tmp 1) rfl w.heap.size 0 rfl _ _ hL1.out underlying53 rfl (by kernel_rfl) ?_) | (with_reducible refine wpList_load_mid rfl 53 (.tmp 3) rfl b3 0 rfl _ _ hL3.out underlying53 rfl (by kernel_rfl) ?_))
 go_ret
 exact ⟨rfl, hb2⟩
attribute [-go_sem] Instr.storeAt in
attribute [-go_sem] run_eql_struct in
theorem formed_0 (p : Dg.Pt) (k1 : (p.kind == 1) = false) (k2 : (p.kind == 2) = false) (k3 : (p.kind == 3) = false) (k4 : (p.kind == 4) = false) (k5 : (p.kind == 5) = false) (k6 : (p.kind == 6) = false) (k7 : (p.kind == 7) = false) (w : World) :
  Calls Tryz.prog 61 #[.agg (Rq0 p)] w fun e w' => e = .returned (.bool false) ∧ Below w.heap.size w w' := by
 have r1 := heap_alloc_new w (.cells (Rq0 p) 53)
 have hb1 := nwB w (.cells (Rq0 p) 53)
 have hmx := hmxQ
 go_enter func61, ntmps61
 go_upto_region 1 with (fail)
 generalize w.alloc (.cells (Rq0 p) 53) = w1 at *
 have hcs := jC15 r1
 have c0 := hcs.1; have c1 := hcs.2.1
 clear hcs
 have hst := store_new (ty := 53) (T := 53) w1 Rq2 (Rq7 p) (by kernel_rfl) rfl (all_oneCell_toArray (ptL.one (Dg.barePt p.kind p.id)))
 have r3 := heap_alloc_new w1 (.cells (Rq7 p) 53)
 have hbn := nwB w1 (.cells (Rq7 p) 53)
 have r12 := iNext r1 hbn
 have hb2 := bnext hb1 hbn
 have hsz := lt_of_block r1
 go_upto_region 24 with (fail)
 clear hst c1 hbn hb1 r1
 obtain ⟨b3, hb3⟩ : ∃ b3, b3 = w1.heap.size := ⟨_, rfl⟩
 have HB3 := hide hb3
 rw [← hb3] at r3 hsz ⊢
 clear hb3
 generalize w1.alloc (.cells (Rq7 p) 53) = w2 at *
 clear HB3
 go_wp2
 go_ret
 exact ⟨rfl, hb2⟩
attribute [-go_sem] Instr.storeAt in
attribute [-go_sem] run_eql_struct in
theorem formed_3 (p : Dg.Pt) (hp : PtW p) (R1 R2 : Bool) (hR1 : sameP p { Dg.barePt p.kind p.id with number := p.number } = R1) (hR2 : Dg.validC [⟨1, Dg.sDd, Dg.nil8, p.number, Dg.nil8, Dg.nil8, false⟩] = R2) (k1 : (p.kind == 1) = false) (k2 : (p.kind == 2) = false) (k3 : (p.kind == 3) = true) (w : World) :
  Calls Tryz.prog 61 #[.agg (Rq0 p)] w fun e w' => e = .returned (.bool (R1 && R2)) ∧ Below w.heap.size w w' := by
 have r1 := heap_alloc_new w (.cells (Rq0 p) 53)
 have hb1 := nwB w (.cells (Rq0 p) 53)
 have hmx := hmxQ
 have HR1 := hide hR1; have HR2 := hide hR2; have HP := hide hp
 clear hR1 hR2 hp
 go_enter func61, ntmps61
 go_upto_region 1 with (fail)
 generalize w.alloc (.cells (Rq0 p) 53) = w1 at *
 have hcs := jC15 r1
 have c0 := hcs.1; have c1 := hcs.2.1
 clear hcs
 have hst := store_new (ty := 53) (T := 53) w1 Rq2 (Rq7 p) (by kernel_rfl) rfl (all_oneCell_toArray (ptL.one (Dg.barePt p.kind p.id)))
 have r3 := heap_alloc_new w1 (.cells (Rq7 p) 53)
 have hbn := nwB w1 (.cells (Rq7 p) 53)
 have r12 := iNext r1 hbn
 have hb2 := bnext hb1 hbn
 have hsz := lt_of_block r1
 go_upto_region 13 with (fail)
 clear hst c1 hbn hb1 r1
 obtain ⟨b3, hb3⟩ : ∃ b3, b3 = w1.heap.size := ⟨_, rfl⟩
 have HB3 := hide hb3
 rw [← hb3] at r3 hsz ⊢
 clear hb3
 generalize w1.alloc (.cells (Rq7 p) 53) = w2 at *
 clear HB3
 clear c0
 have c4 := (jC15 r12).2.2.2.2.1
 have hst := store_part (ty := 9) w2 b3 4 (Rq7 p) (.string p.number) (Rq8 p) r3 infoStr1 (by show 4 + 1 ≤ 15; decide) (one_str _) rfl
 have q1 := (setRow_other w2 b3 w.heap.size (Rq8 p) (by omega)).trans r12
 have q3 := setRow_heap w2 b3 _ (Rq8 p) _ _ r3
 have qb := below_setRow hb2 (by omega) (g := b3) (Rq8 p)
 go_upto_region 14 with (fail)
 clear c4
 clear hst r12 r3 hb2
 have r12 := q1
 have r3 := q3
 have hb2 := qb
 clear q1 q3 qb
 generalize w2.setRow b3 (Rq8 p : Array Value) = w3 at *
 have c4 := (jC15 r12).2.2.2.2.1
 have hpr : ∀ w, (binOp .eql 53 (.agg (Rq0 p)) (.agg (Rq8 p))).run Tryz.prog w = .ok (.bool R1) w := fun w => by rw [← HR1.out]; exact patch_run w p { Dg.barePt p.kind p.id with number := p.number }
 have hL1 := hide (range_of r12 0 (Rq0 p) rfl)
 have hL3 := hide (range_of r3 0 (Rq8 p) rfl)
 cases R1 with
 | false =>
  go_wp2_with (first | (with_reducible refine wpList_load_mid rfl 53 (.tmp 1) rfl w.heap.size 0 rfl _ _ hL1.out underlying53 rfl (by kernel_rfl) ?_) | (with_reducible refine wpList_load_mid rfl 53 (.tmp 3) rfl b3 0 rfl _ _ hL3.out underlying53 rfl (by kernel_rfl) ?_))
  go_ret
  exact ⟨rfl, hb2⟩
 | true =>
  go_wp2_with (first | (with_reducible refine wpList_load_mid rfl 53 (.tmp 1) rfl w.heap.size 0 rfl _ _ hL1.out underlying53 rfl (by kernel_rfl) ?_) | (with_reducible refine wpList_load_mid rfl 53 (.tmp 3) rfl b3 0 rfl _ _ hL3.out underlying53 rfl (by kernel_rfl) ?_))
  clear hL1 hL3 hpr c4
  refine (validF_of ⟨1, Dg.sDd, Dg.nil8, p.number, Dg.nil8, Dg.nil8, false⟩ ⟨by dsimp only; decide, by dsimp only; decide, by dsimp only; decide, by dsimp only; decide, HP.out.nz, by dsimp only; decide, by dsimp only; decide⟩ w3 R2 HR2.out).mono ?_
  rintro e w4 ⟨rfl, hb4⟩
  have hb5 := bnext hb2 hb4
  clear hb4 hb2
  go_wp2
  go_ret
  exact ⟨rfl, hb5⟩
attribute [-go_sem] Instr.storeAt in
attribute [-go_sem] run_eql_struct in
theorem formed_4 (p : Dg.Pt) (R1 : Bool) (hR1 : sameP p { Dg.barePt p.kind p.id with parent := p.parent, after := p.after } = R1) (k1 : (p.kind == 1) = false) (k2 : (p.kind == 2) = false) (k3 : (p.kind == 3) = false) (k4 : (p.kind == 4) = true) (w : World) :
  Calls Tryz.prog 61 #[.agg (Rq0 p)] w fun e w' => e = .returned (.bool R1) ∧ Below w.heap.size w w' := by
 have r1 := heap_alloc_new w (.cells (Rq0 p) 53)
 have hb1 := nwB w (.cells (Rq0 p) 53)
 have hmx := hmxQ
 have HR1 := hide hR1
 clear hR1
 go_enter func61, ntmps61
 go_upto_region 1 with (fail)
 generalize w.alloc (.cells (Rq0 p) 53) = w1 at *
 have hcs := jC15 r1
 have c0 := hcs.1; have c1 := hcs.2.1
 clear hcs
 have hst := store_new (ty := 53) (T := 53) w1 Rq2 (Rq7 p) (by kernel_rfl) rfl (all_oneCell_toArray (ptL.one (Dg.barePt p.kind p.id)))
 have r3 := heap_alloc_new w1 (.cells (Rq7 p) 53)
 have hbn := nwB w1 (.cells (Rq7 p) 53)
 have r12 := iNext r1 hbn
 have hb2 := bnext hb1 hbn
 have hsz := lt_of_block r1
 go_upto_region 16 with (fail)
 clear hst c1 hbn hb1 r1
 obtain ⟨b3, hb3⟩ : ∃ b3, b3 = w1.heap.size := ⟨_, rfl⟩
 have HB3 := hide hb3
 rw [← hb3] at r3 hsz ⊢
 clear hb3
 generalize w1.alloc (.cells (Rq7 p) 53) = w2 at *
 clear HB3
 clear c0
 refine wp_region_noPanic ?_
 refine wp_region_L (fun X => X.heap[w.heap.size]? = some (.cells (Rq0 p) 53 (0, 0))) 8 hmx ?_
 have hdr := (Below.refl w2.heap.size w2).drew
 have hS1 : (fun X : World => X.heap[w.heap.size]? = some (.cells (Rq0 p) 53 (0, 0))) w2.drew := iNext r12 hdr
 have q3 := iNext r3 hdr
 have qb := bnext hb2 hdr
 clear hdr r12 r3 hb2
 have r3 := q3
 have hb2 := qb
 clear q3 qb
 generalize w2.drew = u0 at *
 refine tU 0 10 hS1 rfl ?_
 refine tU 1 10 hS1 rfl ?_ (by intro wS hS; have hcs := jC15 hS; have c2 := hcs.2.2.1; have c3 := hcs.2.2.2.1; clear hcs; go_simp; (try with_reducible rfl))
 refine tU 2 10 hS1 rfl ?_
 refine tU 3 10 hS1 rfl ?_ (by intro wS hS; have hcs := jC15 hS; have c2 := hcs.2.2.1; have c3 := hcs.2.2.2.1; clear hcs; go_simp; (try with_reducible rfl))
 refine oY 4 fun K hK => ?_
 go_simp
 refine hK.out _ _ (Or.inr hS1) ?_
 clear hK K
 try simp only [Act.put, pu]
 refine oY 5 fun K hK => ?_
 have r12 := hS1
 have hst := store_part (ty := 9) u0 b3 2 (Rq7 p) (.string p.parent) (Rq9 p) r3 infoStr1 (by show 2 + 1 ≤ 15; decide) (one_str _) rfl
 have q1 := (setRow_other u0 b3 w.heap.size (Rq9 p) (by omega)).trans r12
 have q3 := setRow_heap u0 b3 _ (Rq9 p) _ _ r3
 have qb := below_setRow hb2 (by omega) (g := b3) (Rq9 p)
 go_simp
 clear hS1
 clear hst r12 r3 hb2
 have r12 := q1
 have r3 := q3
 have hb2 := qb
 clear q1 q3 qb
 generalize u0.setRow b3 (Rq9 p : Array Value) = u1 at *
 have hS1 := r12
 clear r12
 refine hK.out _ _ (Or.inr hS1) ?_
 clear hK K
 try simp only [Act.put, pu]
 refine oY 6 fun K hK => ?_
 go_simp
 refine hK.out _ _ (Or.inr hS1) ?_
 clear hK K
 try simp only [Act.put, pu]
 refine oY 7 fun K hK => ?_
 have r12 := hS1
 have hst := store_part (ty := 9) u1 b3 3 (Rq9 p) (.string p.after) (Rq10 p) r3 infoStr1 (by show 3 + 1 ≤ 15; decide) (one_str _) rfl
 have q1 := (setRow_other u1 b3 w.heap.size (Rq10 p) (by omega)).trans r12
 have q3 := setRow_heap u1 b3 _ (Rq10 p) _ _ r3
 have qb := below_setRow hb2 (by omega) (g := b3) (Rq10 p)
 go_simp
 clear hS1
 clear hst r12 r3 hb2
 have r12 := q1
 have r3 := q3
 have hb2 := qb
 clear q1 q3 qb
 generalize u1.setRow b3 (Rq10 p : Array Value) = u2 at *
 have hS1 := r12
 clear r12
 refine hK.out _ _ (Or.inr hS1) ?_
 clear hK K
 try simp only [Act.put, pu]
 refine dnY ?_
 have r12 := hS1
 clear hS1
 have hpr : ∀ w, (binOp .eql 53 (.agg (Rq0 p)) (.agg (Rq10 p))).run Tryz.prog w = .ok (.bool R1) w := fun w => by rw [← HR1.out]; exact patch_run w p { Dg.barePt p.kind p.id with parent := p.parent, after := p.after }
 have hL1 := hide (range_of r12 0 (Rq0 p) rfl)
 have hL3 := hide (range_of r3 0 (Rq10 p) rfl)
 go_wp2_with (first | (with_reducible refine wpList_load_mid rfl 53 (.tmp 1) rfl w.heap.size 0 rfl _ _ hL1.out underlying53 rfl (by kernel_rfl) ?_) | (with_reducible refine wpList_load_mid rfl 53 (.tmp 3) rfl b3 0 rfl _ _ hL3.out underlying53 rfl (by kernel_rfl) ?_))
 go_ret
 exact ⟨rfl, hb2⟩
attribute [-go_sem] Instr.storeAt in
attribute [-go_sem] run_eql_struct in
theorem formed_7 (p : Dg.Pt) (R1 : Bool) (hR1 : sameP p { Dg.barePt p.kind p.id with item := { Dg.zeroI with north := p.item.north, south := p.item.south } } = R1) (k1 : (p.kind == 1) = false) (k2 : (p.kind == 2) = false) (k3 : (p.kind == 3) = false) (k4 : (p.kind == 4) = false) (k5 : (p.kind == 5) = false) (k6 : (p.kind == 6) = false) (k7 : (p.kind == 7) = true) (w : World) :
  Calls Tryz.prog 61 #[.agg (Rq0 p)] w fun e w' => e = .returned (.bool R1) ∧ Below w.heap.size w w' := by
 have r1 := heap_alloc_new w (.cells (Rq0 p) 53)
 have hb1 := nwB w (.cells (Rq0 p) 53)
 have hmx := hmxQ
 have HR1 := hide hR1
 clear hR1
 go_enter func61, ntmps61
 go_upto_region 1 with (fail)
 generalize w.alloc (.cells (Rq0 p) 53) = w1 at *
 have hcs := jC15 r1
 have c0 := hcs.1; have c1 := hcs.2.1
 clear hcs
 have hst := store_new (ty := 53) (T := 53) w1 Rq2 (Rq7 p) (by kernel_rfl) rfl (all_oneCell_toArray (ptL.one (Dg.barePt p.kind p.id)))
 have r3 := heap_alloc_new w1 (.cells (Rq7 p) 53)
 have hbn := nwB w1 (.cells (Rq7 p) 53)
 have r12 := iNext r1 hbn
 have hb2 := bnext hb1 hbn
 have hsz := lt_of_block r1
 go_upto_region 22 with (fail)
 clear hst c1 hbn hb1 r1
 obtain ⟨b3, hb3⟩ : ∃ b3, b3 = w1.heap.size := ⟨_, rfl⟩
 have HB3 := hide hb3
 rw [← hb3] at r3 hsz ⊢
 clear hb3
 generalize w1.alloc (.cells (Rq7 p) 53) = w2 at *
 clear HB3
 clear c0
 refine wp_region_noPanic ?_
 refine wp_region_L (fun X => X.heap[w.heap.size]? = some (.cells (Rq0 p) 53 (0, 0))) 12 hmx ?_
 have hdr := (Below.refl w2.heap.size w2).drew
 have hS1 : (fun X : World => X.heap[w.heap.size]? = some (.cells (Rq0 p) 53 (0, 0))) w2.drew := iNext r12 hdr
 have q3 := iNext r3 hdr
 have qb := bnext hb2 hdr
 clear hdr r12 r3 hb2
 have r3 := q3
 have hb2 := qb
 clear q3 qb
 generalize w2.drew = u0 at *
 refine tU 0 14 hS1 rfl ?_
 refine tU 1 14 hS1 rfl ?_
 refine tU 2 14 hS1 rfl ?_ (by intro wS hS; have hcs := jC15 hS; have c9 := hcs.2.2.2.2.2.2.2.2.2.1; have c10 := hcs.2.2.2.2.2.2.2.2.2.2.1; clear hcs; go_simp; (try with_reducible rfl))
 refine tU 3 14 hS1 rfl ?_
 refine tU 4 14 hS1 rfl ?_
 refine tU 5 14 hS1 rfl ?_ (by intro wS hS; have hcs := jC15 hS; have c9 := hcs.2.2.2.2.2.2.2.2.2.1; have c10 := hcs.2.2.2.2.2.2.2.2.2.2.1; clear hcs; go_simp; (try with_reducible rfl))
 refine oY 6 fun K hK => ?_
 go_simp
 refine hK.out _ _ (Or.inr hS1) ?_
 clear hK K
 try simp only [Act.put, pu]
 refine oY 7 fun K hK => ?_
 go_simp
 refine hK.out _ _ (Or.inr hS1) ?_
 clear hK K
 try simp only [Act.put, pu]
 refine oY 8 fun K hK => ?_
 have r12 := hS1
 have hst := store_part (ty := 9) u0 b3 9 (Rq7 p) (.string p.item.north) (Rq11 p) r3 infoStr1 (by show 9 + 1 ≤ 15; decide) (one_str _) rfl
 have q1 := (setRow_other u0 b3 w.heap.size (Rq11 p) (by omega)).trans r12
 have q3 := setRow_heap u0 b3 _ (Rq11 p) _ _ r3
 have qb := below_setRow hb2 (by omega) (g := b3) (Rq11 p)
 go_simp
 clear hS1
 clear hst r12 r3 hb2
 have r12 := q1
 have r3 := q3
 have hb2 := qb
 clear q1 q3 qb
 generalize u0.setRow b3 (Rq11 p : Array Value) = u1 at *
 have hS1 := r12
 clear r12
 refine hK.out _ _ (Or.inr hS1) ?_
 clear hK K
 try simp only [Act.put, pu]
 refine oY 9 fun K hK => ?_
 go_simp
 refine hK.out _ _ (Or.inr hS1) ?_
 clear hK K
 try simp only [Act.put, pu]
 refine oY 10 fun K hK => ?_
 go_simp
 refine hK.out _ _ (Or.inr hS1) ?_
 clear hK K
 try simp only [Act.put, pu]
 refine oY 11 fun K hK => ?_
 have r12 := hS1
 have hst := store_part (ty := 9) u1 b3 10 (Rq11 p) (.string p.item.south) (Rq12 p) r3 infoStr1 (by show 10 + 1 ≤ 15; decide) (one_str _) rfl
 have q1 := (setRow_other u1 b3 w.heap.size (Rq12 p) (by omega)).trans r12
 have q3 := setRow_heap u1 b3 _ (Rq12 p) _ _ r3
 have qb := below_setRow hb2 (by omega) (g := b3) (Rq12 p)
 go_simp
 clear hS1
 clear hst r12 r3 hb2
 have r12 := q1
 have r3 := q3
 have hb2 := qb
 clear q1 q3 qb
 generalize u1.setRow b3 (Rq12 p : Array Value) = u2 at *
 have hS1 := r12
 clear r12
 refine hK.out _ _ (Or.inr hS1) ?_
 clear hK K
 try simp only [Act.put, pu]
 refine dnY ?_
 have r12 := hS1
 clear hS1
 have hpr : ∀ w, (binOp .eql 53 (.agg (Rq0 p)) (.agg (Rq12 p))).run Tryz.prog w = .ok (.bool R1) w := fun w => by rw [← HR1.out]; exact patch_run w p { Dg.barePt p.kind p.id with item := { Dg.zeroI with north := p.item.north, south := p.item.south } }
 have hL1 := hide (range_of r12 0 (Rq0 p) rfl)
 have hL3 := hide (range_of r3 0 (Rq12 p) rfl)
 go_wp2_with (first | (with_reducible refine wpList_load_mid rfl 53 (.tmp 1) rfl w.heap.size 0 rfl _ _ hL1.out underlying53 rfl (by kernel_rfl) ?_) | (with_reducible refine wpList_load_mid rfl 53 (.tmp 3) rfl b3 0 rfl _ _ hL3.out underlying53 rfl (by kernel_rfl) ?_))
 go_ret
 exact ⟨rfl, hb2⟩
attribute [-go_sem] Instr.storeAt in
attribute [-go_sem] run_eql_struct in
theorem formed_1 (p : Dg.Pt) (hp : PtW p) (R1 R2 : Bool) (hR1 : sameP p { Dg.barePt p.kind p.id with parent := p.parent, after := p.after, item := p.item } = R1) (hR2 : Dg.validC [{ p.item with parent := Dg.nil8 }] = R2) (E1 E2 : Bool) (hE1 : (p.item.id.toList == p.id.toList) = E1) (hE2 : (p.item.parent.toList == p.parent.toList) = E2) (k1 : (p.kind == 1) = true) (w : World) :
  Calls Tryz.prog 61 #[.agg (Rq0 p)] w fun e w' => e = .returned (.bool (R1 && (E1 && (E2 && R2)))) ∧ Below w.heap.size w w' := by
 have r1 := heap_alloc_new w (.cells (Rq0 p) 53)
 have hb1 := nwB w (.cells (Rq0 p) 53)
 have hmx := hmxQ
 have HR1 := hide hR1; have HR2 := hide hR2; have HP := hide hp
 clear hR1 hR2 hp
 go_enter func61, ntmps61
 go_upto_region 1 with (fail)
 generalize w.alloc (.cells (Rq0 p) 53) = w1 at *
 have hcs := jC15 r1
 have c0 := hcs.1; have c1 := hcs.2.1
 clear hcs
 have hst := store_new (ty := 53) (T := 53) w1 Rq2 (Rq7 p) (by kernel_rfl) rfl (all_oneCell_toArray (ptL.one (Dg.barePt p.kind p.id)))
 have r3 := heap_alloc_new w1 (.cells (Rq7 p) 53)
 have hbn := nwB w1 (.cells (Rq7 p) 53)
 have r12 := iNext r1 hbn
 have hb2 := bnext hb1 hbn
 have hsz := lt_of_block r1
 go_upto_region 5 with (fail)
 clear hst c1 hbn hb1 r1
 obtain ⟨b3, hb3⟩ : ∃ b3, b3 = w1.heap.size := ⟨_, rfl⟩
 have HB3 := hide hb3
 rw [← hb3] at r3 hsz ⊢
 clear hb3
 generalize w1.alloc (.cells (Rq7 p) 53) = w2 at *
 clear HB3
 clear c0
 have hst := store_new (ty := 51) (T := 51) w2 Rq1 (Rq4 p.item) (by kernel_rfl) rfl (all_oneCell_toArray (iLay.one p.item))
 have hRI := hide (range_of r12 5 (Rq4 p.item) rfl)
 go_upto_region 6 with (with_reducible refine wpList_load_mid rfl 51 (.tmp 15) rfl w.heap.size 5 rfl _ _ hRI.out underlying51 rfl (by kernel_rfl) ?_)
 clear hst hRI
 have r5 := heap_alloc_new w2 (.cells (Rq4 p.item) 51)
 have hbn := nwB w2 (.cells (Rq4 p.item) 51)
 have q1 := iNext r12 hbn
 have q3 := iNext r3 hbn
 have qb := bnext hb2 hbn
 have hsz3 := lt_of_block r3
 obtain ⟨b5, hb5⟩ : ∃ b5, b5 = w2.heap.size := ⟨_, rfl⟩
 have HB5 := hide hb5
 rw [← hb5] at r5 hsz3 ⊢
 clear hbn hb2 r12 r3 hb5
 have r12 := q1
 have r3 := q3
 have hb2 := qb
 clear q1 q3 qb
 generalize w2.alloc (.cells (Rq4 p.item) 51) = v2 at *
 clear HB5
 refine wp_region_noPanic ?_
 refine wp_region_L (fun X => X.heap[w.heap.size]? = some (.cells (Rq0 p) 53 (0, 0))) 12 hmx ?_
 have hdr := (Below.refl v2.heap.size v2).drew
 have hS1 : (fun X : World => X.heap[w.heap.size]? = some (.cells (Rq0 p) 53 (0, 0))) v2.drew := iNext r12 hdr
 have q3 := iNext r3 hdr
 have qb := bnext hb2 hdr
 have q_r5 := iNext r5 hdr
 clear hdr r12 r3 hb2 r5
 have r3 := q3
 have hb2 := qb
 have r5 := q_r5
 clear q3 qb q_r5
 generalize v2.drew = u0 at *
 refine tU 0 14 hS1 rfl ?_
 refine tU 1 14 hS1 rfl ?_ (by intro wS hS; have hcs := jC15 hS; have c2 := hcs.2.2.1; have c3 := hcs.2.2.2.1; have c5 := hcs.2.2.2.2.2.1; have c6 := hcs.2.2.2.2.2.2.1; have c7 := hcs.2.2.2.2.2.2.2.1; have c8 := hcs.2.2.2.2.2.2.2.2.1; have c9 := hcs.2.2.2.2.2.2.2.2.2.1; have c10 := hcs.2.2.2.2.2.2.2.2.2.2.1; have c11 := hcs.2.2.2.2.2.2.2.2.2.2.2.1; clear hcs; go_simp; (try with_reducible rfl))
 refine tU 2 14 hS1 rfl ?_
 refine tU 3 14 hS1 rfl ?_ (by intro wS hS; have hcs := jC15 hS; have c2 := hcs.2.2.1; have c3 := hcs.2.2.2.1; have c5 := hcs.2.2.2.2.2.1; have c6 := hcs.2.2.2.2.2.2.1; have c7 := hcs.2.2.2.2.2.2.2.1; have c8 := hcs.2.2.2.2.2.2.2.2.1; have c9 := hcs.2.2.2.2.2.2.2.2.2.1; have c10 := hcs.2.2.2.2.2.2.2.2.2.2.1; have c11 := hcs.2.2.2.2.2.2.2.2.2.2.2.1; clear hcs; go_simp; (try with_reducible rfl))
 refine tU 4 14 hS1 rfl ?_
 refine tU 5 14 hS1 rfl ?_ (by intro wS hS; have hcs := jC15 hS; have c2 := hcs.2.2.1; have c3 := hcs.2.2.2.1; have c5 := hcs.2.2.2.2.2.1; have c6 := hcs.2.2.2.2.2.2.1; have c7 := hcs.2.2.2.2.2.2.2.1; have c8 := hcs.2.2.2.2.2.2.2.2.1; have c9 := hcs.2.2.2.2.2.2.2.2.2.1; have c10 := hcs.2.2.2.2.2.2.2.2.2.2.1; have c11 := hcs.2.2.2.2.2.2.2.2.2.2.2.1; clear hcs; go_simp; (try with_reducible rfl))
 refine oY 6 fun K hK => ?_
 go_simp
 refine hK.out _ _ (Or.inr hS1) ?_
 clear hK K
 try simp only [Act.put, pu]
 refine oY 7 fun K hK => ?_
 have r12 := hS1
 have hst := store_part (ty := 9) u0 b3 2 (Rq7 p) (.string p.parent) (Rq9 p) r3 infoStr1 (by show 2 + 1 ≤ 15; decide) (one_str _) rfl
 have q1 := (setRow_other u0 b3 w.heap.size (Rq9 p) (by omega)).trans r12
 have q3 := setRow_heap u0 b3 _ (Rq9 p) _ _ r3
 have qb := below_setRow hb2 (by omega) (g := b3) (Rq9 p)
 have q_r5 := (setRow_other u0 b3 b5 (Rq9 p) (by omega)).trans r5
 go_simp
 clear hS1
 clear hst r12 r3 hb2 r5
 have r12 := q1
 have r3 := q3
 have hb2 := qb
 have r5 := q_r5
 clear q1 q3 qb q_r5
 generalize u0.setRow b3 (Rq9 p : Array Value) = u1 at *
 have hS1 := r12
 clear r12
 refine hK.out _ _ (Or.inr hS1) ?_
 clear hK K
 try simp only [Act.put, pu]
 refine oY 8 fun K hK => ?_
 go_simp
 refine hK.out _ _ (Or.inr hS1) ?_
 clear hK K
 try simp only [Act.put, pu]
 refine oY 9 fun K hK => ?_
 have r12 := hS1
 have hst := store_part (ty := 9) u1 b3 3 (Rq9 p) (.string p.after) (Rq10 p) r3 infoStr1 (by show 3 + 1 ≤ 15; decide) (one_str _) rfl
 have q1 := (setRow_other u1 b3 w.heap.size (Rq10 p) (by omega)).trans r12
 have q3 := setRow_heap u1 b3 _ (Rq10 p) _ _ r3
 have qb := below_setRow hb2 (by omega) (g := b3) (Rq10 p)
 have q_r5 := (setRow_other u1 b3 b5 (Rq10 p) (by omega)).trans r5
 go_simp
 clear hS1
 clear hst r12 r3 hb2 r5
 have r12 := q1
 have r3 := q3
 have hb2 := qb
 have r5 := q_r5
 clear q1 q3 qb q_r5
 generalize u1.setRow b3 (Rq10 p : Array Value) = u2 at *
 have hS1 := r12
 clear r12
 refine hK.out _ _ (Or.inr hS1) ?_
 clear hK K
 try simp only [Act.put, pu]
 refine oY 10 fun K hK => ?_
 go_simp
 refine hK.out _ _ (Or.inr hS1) ?_
 clear hK K
 try simp only [Act.put, pu]
 refine oY 11 fun K hK => ?_
 have r12 := hS1
 have hst := store_part (ty := 51) u2 b3 5 (Rq10 p) (.agg (Rq4 p.item)) (Rq13 p) r3 infoItem7 (by show 5 + 7 ≤ 15; decide) (fun u hu => iLay.one p.item u hu) rfl
 have q1 := (setRow_other u2 b3 w.heap.size (Rq13 p) (by omega)).trans r12
 have q3 := setRow_heap u2 b3 _ (Rq13 p) _ _ r3
 have qb := below_setRow hb2 (by omega) (g := b3) (Rq13 p)
 have q_r5 := (setRow_other u2 b3 b5 (Rq13 p) (by omega)).trans r5
 go_simp
 clear hS1
 clear hst r12 r3 hb2 r5
 have r12 := q1
 have r3 := q3
 have hb2 := qb
 have r5 := q_r5
 clear q1 q3 qb q_r5
 generalize u2.setRow b3 (Rq13 p : Array Value) = u3 at *
 have hS1 := r12
 clear r12
 refine hK.out _ _ (Or.inr hS1) ?_
 clear hK K
 try simp only [Act.put, pu]
 refine dnY ?_
 have r12 := hS1
 clear hS1
 have hst := store_part (ty := 9) u3 b5 2 (Rq4 p.item) (.string ⟨#[]⟩) (Rq14 p.item) r5 infoStr1 (by show 2 + 1 ≤ 7; decide) (one_str _) rfl
 have q1 := (setRow_other u3 b5 w.heap.size (Rq14 p.item) (by omega)).trans r12
 have q3 := (setRow_other u3 b5 b3 (Rq14 p.item) (by omega)).trans r3
 have q5 := setRow_heap u3 b5 _ (Rq14 p.item) _ _ r5
 have qb := below_setRow hb2 (by omega) (g := b5) (Rq14 p.item)
 go_upto_region 8 with (fail)
 clear hst r12 r3 r5 hb2
 have r12 := q1
 have r3 := q3
 have r5 := q5
 have hb2 := qb
 clear q1 q3 q5 qb
 generalize u3.setRow b5 (Rq14 p.item : Array Value) = w8 at *
 have hcs := jC15 r12
 have c1 := hcs.2.1; have c2 := hcs.2.2.1; have c7 := hcs.2.2.2.2.2.2.2.1
 obtain ⟨z0, z1, z2, z3, z4, z5, z6⟩ := iCells r5
 clear hcs
 have hpr : ∀ w, (binOp .eql 53 (.agg (Rq0 p)) (.agg (Rq13 p))).run Tryz.prog w = .ok (.bool R1) w := fun w => by rw [← HR1.out]; exact patch_run w p { Dg.barePt p.kind p.id with parent := p.parent, after := p.after, item := p.item }
 have hL1 := hide (range_of r12 0 (Rq0 p) rfl)
 have hL3 := hide (range_of r3 0 (Rq13 p) rfl)
 cases R1 with
 | false =>
  go_wp2_with (first | (with_reducible refine wpList_load_mid rfl 53 (.tmp 1) rfl w.heap.size 0 rfl _ _ hL1.out underlying53 rfl (by kernel_rfl) ?_) | (with_reducible refine wpList_load_mid rfl 53 (.tmp 3) rfl b3 0 rfl _ _ hL3.out underlying53 rfl (by kernel_rfl) ?_))
  go_ret
  exact ⟨rfl, hb2⟩
 | true =>
  cases E1 with
  | false =>
   go_wp2_with (first | (with_reducible refine wpList_load_mid rfl 53 (.tmp 1) rfl w.heap.size 0 rfl _ _ hL1.out underlying53 rfl (by kernel_rfl) ?_) | (with_reducible refine wpList_load_mid rfl 53 (.tmp 3) rfl b3 0 rfl _ _ hL3.out underlying53 rfl (by kernel_rfl) ?_))
   go_ret
   exact ⟨rfl, hb2⟩
  | true =>
   cases E2 with
   | false =>
    go_wp2_with (first | (with_reducible refine wpList_load_mid rfl 53 (.tmp 1) rfl w.heap.size 0 rfl _ _ hL1.out underlying53 rfl (by kernel_rfl) ?_) | (with_reducible refine wpList_load_mid rfl 53 (.tmp 3) rfl b3 0 rfl _ _ hL3.out underlying53 rfl (by kernel_rfl) ?_))
    go_ret
    exact ⟨rfl, hb2⟩
   | true =>
    go_wp2_with (first | (with_reducible refine wpList_load_mid rfl 53 (.tmp 1) rfl w.heap.size 0 rfl _ _ hL1.out underlying53 rfl (by kernel_rfl) ?_) | (with_reducible refine wpList_load_mid rfl 53 (.tmp 3) rfl b3 0 rfl _ _ hL3.out underlying53 rfl (by kernel_rfl) ?_))
    clear hL1 hL3 hpr c1 c2 c7 z0 z1 z2 z3 z4 z5 z6
    refine (validF_of { p.item with parent := Dg.nil8 } ⟨HP.out.it.k0, HP.out.it.k1, HP.out.it.iz, by dsimp only; decide, HP.out.it.nz, HP.out.it.oz, HP.out.it.sz⟩ w8 R2 HR2.out).mono ?_
    rintro e w9 ⟨rfl, hb4⟩
    have hb6 := bnext hb2 hb4
    clear hb4 hb2
    go_wp2
    go_ret
    exact ⟨rfl, hb6⟩
theorem dec_beq (a b : ByteArray) : decide (a = b) = (a.toList == b.toList) := by
 rw [Bool.eq_iff_iff, decide_eq_true_iff]
 exact (Lib.bytes_beq_iff _ _).symm
theorem formed_of (p : Dg.Pt) (hp : PtW p) (h2 : p.kind ≠ 2) (R : Bool) (hR : Dg.formedP p = R) (w : World) :
  Calls Tryz.prog 61 #[.agg (Rq0 p)] w fun e w' => e = .returned (.bool R) ∧ Below w.heap.size w w' := by
 have b (k : Int) (h : p.kind ≠ k) : (p.kind == k) = false := beq_eq_false_iff_ne.2 h
 have e (k : Int) (h : p.kind = k) : (p.kind == k) = true := beq_iff_eq.2 h
 unfold Dg.formedP at hR
 by_cases h1 : p.kind = 1
 ·rw [if_pos h1, ← sameP_dec, dec_beq, dec_beq] at hR
  rw [← hR]
  exact formed_1 p hp _ _ rfl rfl _ _ rfl rfl (e 1 h1) w
 rw [if_neg h1] at hR
 by_cases h3 : p.kind = 3
 ·rw [if_pos h3, ← sameP_dec] at hR
  rw [← hR]
  exact formed_3 p hp _ _ rfl rfl (b 1 h1) (b 2 h2) (e 3 h3) w
 rw [if_neg h3] at hR
 by_cases h4 : p.kind = 4
 ·rw [if_pos h4, ← sameP_dec] at hR
  rw [← hR]
  exact formed_4 p _ rfl (b 1 h1) (b 2 h2) (b 3 h3) (e 4 h4) w
 rw [if_neg h4] at hR
 by_cases h5 : p.kind = 5
 ·rw [if_pos (Or.inl h5), ← sameP_dec] at hR
  rw [← hR]
  exact formed_5 p _ rfl (b 1 h1) (b 2 h2) (b 3 h3) (b 4 h4) (e 5 h5) w
 by_cases h6 : p.kind = 6
 ·rw [if_pos (Or.inr h6), ← sameP_dec] at hR
  rw [← hR]
  exact formed_6 p _ rfl (b 1 h1) (b 2 h2) (b 3 h3) (b 4 h4) (b 5 h5) (e 6 h6) w
 rw [if_neg (fun h => h.elim h5 h6)] at hR
 by_cases h7 : p.kind = 7
 ·rw [if_pos h7, ← sameP_dec] at hR
  rw [← hR]
  exact formed_7 p _ rfl (b 1 h1) (b 2 h2) (b 3 h3) (b 4 h4) (b 5 h5) (b 6 h6) (e 7 h7) w
 rw [if_neg h7] at hR
 rw [← hR]
 exact formed_0 p (b 1 h1) (b 2 h2) (b 3 h3) (b 4 h4) (b 5 h5) (b 6 h6) (b 7 h7) w
theorem wpList_load_midW {P : Program} {ops : Array Oper} {rest : List Oper} {op : Oper} {a : Act} {w : World} {Q : Exit → Act → World → Prop} (ty : TypeId) (x : Operand) (ho : op.op = .load ty x) (hgd : Region.wanted op (yielded ops a.tmps) = true)
  (b o : Nat) (hx : a.eval x = .pointer (some ⟨b, o, none⟩)) (cs : List Value) (d : TypeDesc) (hc : w.rangeAt b o cs)
  (hu : P.underlying ty = some d) (hd : d.isRow = true) (hi : (P.info? ty).map (·.size) = some cs.length)
  (h : wpList P ops Q rest (a.put op.dst (.agg cs.toArray)) w) : wpList P ops Q (op :: rest) a w :=
 wpList_wanted hgd fun _ hK => wp_load_mid ty x ho b o hx cs d hc hu hd hi (hK _ _ h)
structure ApS (b1 : Nat) (A : Option Addr) (n c : Nat) (l : List Dg.It) (p : Dg.Pt) (X : World) : Prop where
 r1 : X.heap[b1]? = some (.cells #[.slice A n c] 24 (0, 0))
 r2 : X.heap[b1 + 1]? = some (.cells (Rq0 p) 53 (0, 0))
 r3 : X.heap[b1 + 1 + 1]? = some (.cells Rq3 24 (0, 0))
 its : Its X X.heap.size A l
theorem ApS.below {b1 : Nat} {A : Option Addr} {n c : Nat} {l : List Dg.It} {p : Dg.Pt} {X X' : World} (h : ApS b1 A n c l p X) (hb : Below X.heap.size X X') : ApS b1 A n c l p X' := ⟨iNext h.r1 hb, iNext h.r2 hb, iNext h.r3 hb, h.its.keep hb⟩
attribute [-go_sem] Instr.storeAt in
theorem apply_inv (l : List Dg.It) (A : Option Addr) (n c : Nat) (hl : l.length = n) (hn : n ≤ 1048576) (hw : ∀ x ∈ l, ItW x) (p : Dg.Pt) (hp : PtW p) (h2 : p.kind ≠ 2) (hv : Dg.validC l = false)  (w : World) (hI : Its w w.heap.size A l) :
  Calls Tryz.prog 34 #[.agg #[.slice A n c], .agg (Rq0 p)] w (ApR ([], 1) w) := by
 obtain ⟨r1, r2, r3, hb1, hs⟩ := iAlloc3 w (.cells #[.slice A n c] 24) (.cells (Rq0 p) 53) (.cells Rq3 24)
 have hS1 : ApS w.heap.size A n c l p (((w.alloc (.cells #[.slice A n c] 24)).alloc (.cells (Rq0 p) 53)).alloc (.cells Rq3 24)) := ⟨r1, r2, r3, hI.keep hb1⟩
 have hmx := hmxQ
 have HS := hide hs; have HL := hide hl; have HW := hide hw; have HP := hide hp; have H2 := hide h2; have HV := hide hv
 clear r1 r2 r3 hs hI hl hw hp h2 hv
 have c1 := iCells0 hS1.r1
 go_enter func34, ntmps34
 go_wp2_with fail
 generalize ((w.alloc (.cells #[.slice A n c] 24)).alloc (.cells (Rq0 p) 53)).alloc (.cells Rq3 24) = w1 at *
 refine (Code.valid_of l A n c HL.out HW.out hn w1 hS1.its false HV.out).mono ?_
 rintro e w2 ⟨rfl, hbq⟩
 have hS2 := hS1.below hbq
 have hb2 := bnext hb1 hbq
 have hsz : w.heap.size + 3 ≤ w2.heap.size := by have := hbq.size; have := HS.out; omega
 clear hbq hS1 hb1 c1 HS
 have hst := store_part (ty := 24) w2 (w.heap.size + 1 + 1) 0 Rq3 (.agg Rq3) Rq3 hS2.r3 infoCode1 (Nat.le_refl _) (one_code _ _ _) rfl
 have r25 := setRow_heap w2 (w.heap.size + 1 + 1) _ Rq3 _ _ hS2.r3
 have hb8 := below_setRow hb2 (by omega) (g := w.heap.size + 1 + 1) Rq3
 go_wp2
 refine bodyPost_ret (results_c8 results34 _ _ (w.heap.size + 1 + 1) 24 #[.slice none 0 0] (0, 0) _ rfl r25 underlying24 (by kernel_rfl)) rfl (ApR.err rfl hb8)
attribute [-go_sem] Instr.storeAt in
theorem apply_unf (l : List Dg.It) (A : Option Addr) (n c : Nat) (hl : l.length = n) (hn : n ≤ 1048576) (hw : ∀ x ∈ l, ItW x) (p : Dg.Pt) (hp : PtW p) (h2 : p.kind ≠ 2) (hv : Dg.validC l = true) (hf : Dg.formedP p = false)  (w : World) (hI : Its w w.heap.size A l) :
  Calls Tryz.prog 34 #[.agg #[.slice A n c], .agg (Rq0 p)] w (ApR ([], 1) w) := by
 obtain ⟨r1, r2, r3, hb1, hs⟩ := iAlloc3 w (.cells #[.slice A n c] 24) (.cells (Rq0 p) 53) (.cells Rq3 24)
 have hS1 : ApS w.heap.size A n c l p (((w.alloc (.cells #[.slice A n c] 24)).alloc (.cells (Rq0 p) 53)).alloc (.cells Rq3 24)) := ⟨r1, r2, r3, hI.keep hb1⟩
 have hmx := hmxQ
 have HS := hide hs; have HL := hide hl; have HW := hide hw; have HP := hide hp; have H2 := hide h2; have HV := hide hv
 clear r1 r2 r3 hs hI hl hw hp h2 hv
 have HF := hide hf
 clear hf
 have c1 := iCells0 hS1.r1
 go_enter func34, ntmps34
 go_wp2_with fail
 generalize ((w.alloc (.cells #[.slice A n c] 24)).alloc (.cells (Rq0 p) 53)).alloc (.cells Rq3 24) = w1 at *
 refine (Code.valid_of l A n c HL.out HW.out hn w1 hS1.its true HV.out).mono ?_
 rintro e w2 ⟨rfl, hbq⟩
 have hS2 := hS1.below hbq
 have hb2 := bnext hb1 hbq
 have hsz : w.heap.size + 3 ≤ w2.heap.size := by have := hbq.size; have := HS.out; omega
 clear hbq hS1 hb1 c1 HS
 have hL2 := hide (range_of hS2.r2 0 (Rq0 p) rfl)
 go_wp2_with (refine wpList_load_midW 53 (.tmp 3) rfl (by rfl) (w.heap.size + 1) 0 rfl _ _ hL2.out underlying53 rfl (by kernel_rfl) ?_)
 clear hL2
 refine (formed_of p HP.out H2.out false HF.out w2).mono ?_
 rintro e w3 ⟨rfl, hbq⟩
 have hS3 := hS2.below hbq
 have hb3 := bnext hb2 hbq
 have hsz3 : w.heap.size + 3 ≤ w3.heap.size := by have := hbq.size; omega
 clear hbq hS2 hb2 hsz
 have hst := store_part (ty := 24) w3 (w.heap.size + 1 + 1) 0 Rq3 (.agg Rq3) Rq3 hS3.r3 infoCode1 (Nat.le_refl _) (one_code _ _ _) rfl
 have r25 := setRow_heap w3 (w.heap.size + 1 + 1) _ Rq3 _ _ hS3.r3
 have hb8 := below_setRow hb3 (by omega) (g := w.heap.size + 1 + 1) Rq3
 go_wp2
 refine bodyPost_ret (results_c8 results34 _ _ (w.heap.size + 1 + 1) 24 #[.slice none 0 0] (0, 0) _ rfl r25 underlying24 (by kernel_rfl)) rfl (ApR.err rfl hb8)
theorem infoCh17 : (Tryz.prog.info? 143).map (·.size) = some 17 := by kernel_rfl
theorem one_change (A : Option Addr) (n c : Nat) (p : Dg.Pt) (K0 : Int) : ∀ u ∈ (Value.agg (Rq5 A n c p K0 : Array Value)).cells.toList, u.oneCell' = true := fun u hu => by
 have hu' : u ∈ [Value.slice A n c] ++ ((ptC p).toList ++ [Value.int .i64 K0]) := hu
 rcases List.mem_append.1 hu' with h | h
 ·rw [List.mem_singleton.1 h]; rfl
 ·rcases List.mem_append.1 h with h | h
  ·exact ptL.one p u h
  ·rw [List.mem_singleton.1 h]; rfl
attribute [-go_sem] Instr.storeAt in
theorem apply_ins (l : List Dg.It) (A : Option Addr) (n c : Nat) (hl : l.length = n) (hn : n ≤ 1048576) (hw : ∀ x ∈ l, ItW x) (p : Dg.Pt) (hp : PtW p) (h2 : p.kind ≠ 2) (hv : Dg.validC l = true) (hk : p.kind = 1) (hf : Dg.formedP p = true)  (w : World) (hI : Its w w.heap.size A l) :
  Calls Tryz.prog 34 #[.agg #[.slice A n c], .agg (Rq0 p)] w (ApR (Dg.insertP l p) w) := by
 obtain ⟨r1, r2, r3, hb1, hs⟩ := iAlloc3 w (.cells #[.slice A n c] 24) (.cells (Rq0 p) 53) (.cells Rq3 24)
 have hS1 : ApS w.heap.size A n c l p (((w.alloc (.cells #[.slice A n c] 24)).alloc (.cells (Rq0 p) 53)).alloc (.cells Rq3 24)) := ⟨r1, r2, r3, hI.keep hb1⟩
 have hmx := hmxQ
 have HS := hide hs; have HL := hide hl; have HW := hide hw; have HP := hide hp; have H2 := hide h2; have HV := hide hv
 clear r1 r2 r3 hs hI hl hw hp h2 hv
 have HF := hide hf
 clear hf
 have HK := hide hk
 have hk1 : (p.kind != 1) = false := by rw [hk]; rfl
 clear hk
 have c1 := iCells0 hS1.r1
 go_enter func34, ntmps34
 go_wp2_with fail
 generalize ((w.alloc (.cells #[.slice A n c] 24)).alloc (.cells (Rq0 p) 53)).alloc (.cells Rq3 24) = w1 at *
 refine (Code.valid_of l A n c HL.out HW.out hn w1 hS1.its true HV.out).mono ?_
 rintro e w2 ⟨rfl, hbq⟩
 have hS2 := hS1.below hbq
 have hb2 := bnext hb1 hbq
 have hsz : w.heap.size + 3 ≤ w2.heap.size := by have := hbq.size; have := HS.out; omega
 clear hbq hS1 hb1 c1 HS
 have hL2 := hide (range_of hS2.r2 0 (Rq0 p) rfl)
 go_wp2_with (refine wpList_load_midW 53 (.tmp 3) rfl (by rfl) (w.heap.size + 1) 0 rfl _ _ hL2.out underlying53 rfl (by kernel_rfl) ?_)
 clear hL2
 refine (formed_of p HP.out H2.out true HF.out w2).mono ?_
 rintro e w3 ⟨rfl, hbq⟩
 have hS3 := hS2.below hbq
 have hb3 := bnext hb2 hbq
 have hsz3 : w.heap.size + 3 ≤ w3.heap.size := by have := hbq.size; omega
 clear hbq hS2 hb2 hsz
 obtain ⟨K0, hK0⟩ : ∃ K, findX l p.id = K := ⟨_, rfl⟩
 have HK0 := hide hK0
 clear hK0
 have HSK := hide (fun X (hX : Below w3.heap.size w3 X) => hS3.below hX)
 go_upto_region 3 with (fail)
 go_cut [6] from 18 to 24 (fun v6 wx => ∃ b6 : Nat, v6 = .pointer (some ⟨b6, 0, none⟩) ∧ w3.heap.size ≤ b6 ∧ wx.heap[b6]? = some (.cells (Rq5 A n c p K0) 143 (0, 0)) ∧ Below w3.heap.size w3 wx)
 case first =>
  refine wp_region_noPanic ?_
  refine wp_region_L (Below w3.heap.size w3) 9 hmx ?_
  have hH0 : (Below w3.heap.size w3) w3.drew := (Below.refl w3.heap.size w3).drew
  generalize w3.drew = u0 at *
  refine tU 0 11 hH0 rfl ?_ (by intro wS hS; have c1 := iCells0 (HSK.out _ hS).r1; go_simp; (try with_reducible rfl))
  refine tkV 1 11 (.agg (Rq0 p)) rfl (by exact yieldsIf_load_mid (by rfl) 53 (.tmp 3) rfl (w.heap.size + 1) 0 rfl (Rq0 p) _ (fun X hX => range_of (HSK.out X hX).r2 0 (Rq0 p) rfl) underlying53 rfl (by kernel_rfl)) hH0 ?_
  simp only [Act.put, pu]
  refine tU 2 11 hH0 rfl ?_ (by intro wS hS; have c1 := iCells0 (HSK.out _ hS).r1; go_simp; (try with_reducible rfl))
  refine tU 3 11 hH0 rfl ?_
  refine tU 4 11 hH0 rfl ?_ (by intro wS hS; have k1 := (jC15 (HSK.out _ hS).r2).2.1; go_simp; (try with_reducible rfl))
  refine wpAnyL_duo (i := 5) (j := 7) (by decide +kernel) (by rfl) (by rfl) (fun K hK => ?_) (fun K hK => ?_)
  ·rw [if_pos (by rfl)]
   go_simp
   refine (Code.find_of l A n c HL.out hn p.id u0 (HSK.out _ hH0).its K0 HK0.out).mono ?_
   rintro e u1 ⟨rfl, hx1⟩
   have hH1 := hH0.trans (hx1.mono hH0.size)
   refine hK.out _ _ (Or.inr hH1) ?_
   clear hK K hx1
   try simp only [Act.put, pu]
   refine tU 6 11 hH1 rfl ?_
   refine oY 7 fun K hK => ?_
   go_simp
   have hx2 := nwB u1 (.cells Rq15 143)
   have hr2 := heap_alloc_new u1 (.cells Rq15 143)
   have hg2 : w3.heap.size ≤ u1.heap.size := hH1.size
   have hH2 := hH1.trans (hx2.mono hH1.size)
   refine hK.out _ _ (Or.inr hH2) ?_
   clear hK K hx2
   try simp only [Act.put, pu]
   generalize u1.alloc (.cells Rq15 143) = u2 at *
   generalize u1.heap.size = g2 at *
   refine oY 8 fun K hK => ?_
   have hst := store_part (ty := 143) u2 g2 0 Rq15 (.agg (Rq5 A n c p K0)) (Rq5 A n c p K0) hr2 infoCh17 (Nat.le_refl _) (one_change A n c p K0) rfl
   go_simp
   clear hst
   have hr3 := setRow_heap u2 g2 _ (Rq5 A n c p K0) _ _ hr2
   have hH3 := below_setRow hH2 hg2 (g := g2) (Rq5 A n c p K0)
   refine hK.out _ _ (Or.inr hH3) ?_
   clear hK K
   try simp only [Act.put, pu]
   refine dnY ?_
   go_wp2_with fail
   go_meet
   case rel => exact ⟨g2, rfl, hg2, hr3, hH3⟩
  ·rw [if_pos (by rfl)]
   go_simp
   have hx2 := nwB u0 (.cells Rq15 143)
   have hr1 := heap_alloc_new u0 (.cells Rq15 143)
   have hg2 : w3.heap.size ≤ u0.heap.size := hH0.size
   have hH1 := hH0.trans (hx2.mono hH0.size)
   refine hK.out _ _ (Or.inr hH1) ?_
   clear hK K hx2
   try simp only [Act.put, pu]
   generalize u0.alloc (.cells Rq15 143) = u1 at *
   generalize u0.heap.size = g2 at *
   refine oY 5 fun K hK => ?_
   go_simp
   refine (Code.find_of l A n c HL.out hn p.id u1 (HSK.out _ hH1).its K0 HK0.out).mono ?_
   rintro e u2 ⟨rfl, hx1⟩
   have hH2 := hH1.trans (hx1.mono hH1.size)
   have hr2 := iNext hr1 hx1
   refine hK.out _ _ (Or.inr hH2) ?_
   clear hK K hx1
   try simp only [Act.put, pu]
   refine tU 6 11 hH2 rfl ?_
   refine oY 8 fun K hK => ?_
   have hst := store_part (ty := 143) u2 g2 0 Rq15 (.agg (Rq5 A n c p K0)) (Rq5 A n c p K0) hr2 infoCh17 (Nat.le_refl _) (one_change A n c p K0) rfl
   go_simp
   clear hst
   have hr3 := setRow_heap u2 g2 _ (Rq5 A n c p K0) _ _ hr2
   have hH3 := below_setRow hH2 hg2 (g := g2) (Rq5 A n c p K0)
   refine hK.out _ _ (Or.inr hH3) ?_
   clear hK K
   try simp only [Act.put, pu]
   refine dnY ?_
   go_wp2_with fail
   go_meet
   case rel => exact ⟨g2, rfl, hg2, hr3, hH3⟩
 case rest =>
  obtain ⟨b6, rfl, hb6, r6, hbw⟩ := hcut
  rename World => wq
  have hS4 := HSK.out _ hbw
  have hb4 := bnext hb3 hbw
  clear hbw HSK hS3 hb3
  have hst := store_new (ty := 146) (T := 146) wq #[.nilFunc, .nilFunc, .nilFunc, .nilFunc, .nilFunc, .nilFunc, .nilFunc, .nilFunc] Rq16 (by kernel_rfl) rfl (by decide +kernel)
  have hb6q := lt_of_block r6
  go_upto_region 5 with (fail)
  clear hst
  have hbn := nwB wq (.cells Rq16 146)
  have r7 := heap_alloc_new wq (.cells Rq16 146)
  have hS5 := hS4.below hbn
  have r65 := iNext r6 hbn
  have hb5 := bnext hb4 hbn
  clear hbn hS4 r6 hb4
  obtain ⟨b7, hb7⟩ : ∃ b7, b7 = wq.heap.size := ⟨_, rfl⟩
  rw [← hb7] at r7 hb6q ⊢
  have HB7 := hide hb7
  clear hb7
  generalize wq.alloc (.cells Rq16 146) = w5 at *
  clear HB7
  have c0 := (jC15 hS5.r2).1
  go_upto_region 14 with (fail)
  clear hk1
  clear c0
  have HSK2 := hide (fun X (hX : Below w5.heap.size w5 X) => hS5.below hX)
  have HR6 := hide (fun X (hX : Below w5.heap.size w5 X) => iNext r65 hX)
  have HR7 := hide (fun X (hX : Below w5.heap.size w5 X) => iNext r7 hX)
  have hsz5 := lt_of_block hS5.r3
  refine wp_region_noPanic ?_
  refine wp_region_L (Below w5.heap.size w5) 8 hmx ?_
  have hH0 : (Below w5.heap.size w5) w5.drew := (Below.refl w5.heap.size w5).drew
  generalize w5.drew = u0 at *
  refine tU 0 12 hH0 rfl ?_
  refine tU 1 12 hH0 rfl ?_ (by intro wS hS; have c0 := (jC15 (HSK2.out _ hS).r2).1; go_simp; (try with_reducible rfl))
  refine tU 2 12 hH0 rfl ?_ (by intro wS hS; have hk := HK.out; go_simp; (try with_reducible rfl))
  refine tU 3 12 hH0 rfl ?_ (by intro wS hS; have cf := cell_of_row _ _ 1 _ _ (0, 0) (HR7.out _ hS); go_simp; (try with_reducible rfl))
  refine tkV 4 12 (.agg (Rq5 A n c p K0)) rfl (by exact yieldsIf_load_mid (by rfl) 143 (.tmp 6) rfl b6 0 rfl (Rq5 A n c p K0) _ (fun X hX => range_of (HR6.out X hX) 0 (Rq5 A n c p K0) rfl) underlying143 rfl (by kernel_rfl)) hH0 ?_
  simp only [Act.put, pu]
  refine oY 5 fun K hK => ?_
  go_simp
  refine (insert_of l A n c HL.out hn p K0 HW.out HV.out HK0.out u0 (HSK2.out _ hH0).its).mono ?_
  rintro e u1 ⟨v', rfl, hO, hx1⟩
  have hH1 := hH0.trans (hx1.mono hH0.size)
  have hszu := hH0.size
  refine hK.out _ _ (Or.inr hH1) ?_
  clear hK K hx1
  try simp only [Act.put, pu]
  refine tU 6 12 hH1 rfl ?_
  refine tU 7 12 hH1 rfl ?_
  refine oY 8 fun K hK => ?_
  obtain ⟨A', c', hv', _, _⟩ := hO.row
  obtain ⟨m', hm'⟩ : ∃ m', (Dg.insertP l p).1.length = m' := ⟨_, rfl⟩
  rw [hm'] at hv'
  clear hm'
  subst hv'
  have hst := store_part (ty := 24) u1 (w.heap.size + 1 + 1) 0 Rq3 (.agg #[.slice A' m' c']) #[.slice A' m' c'] (HSK2.out _ hH1).r3 infoCode1 (Nat.le_refl _) (one_code _ _ _) rfl
  have r25 := setRow_heap u1 (w.heap.size + 1 + 1) _ #[.slice A' m' c'] _ _ (HSK2.out _ hH1).r3
  have hb8 := below_setRow (bnext hb5 hH1) (by omega) (g := w.heap.size + 1 + 1) #[.slice A' m' c']
  have HO2 := hide (own_other hO (g := w.heap.size + 1 + 1) (fun e => by have := (World.ownsRow.lt hO _ e).1; omega) #[.slice A' m' c'])
  go_simp
  clear hst hO
  refine hK.out _ _ (Or.inl (by rfl)) ?_
  clear hK K hH1
  generalize u1.setRow (w.heap.size + 1 + 1) #[.slice A' m' c'] = u2 at *
  try simp only [Act.put, pu]
  refine oY 9 fun K hK => ?_
  go_simp
  refine hK.out _ _ (Or.inl (by rfl)) ?_
  clear hK K
  try simp only [Act.put, pu]
  refine dnY ?_
  have hsz0 : w.heap.size ≤ u0.heap.size := by have := hH0.size; omega
  go_wp2
  refine bodyPost_ret (results_c8 results34 _ _ (w.heap.size + 1 + 1) 24 #[.slice A' m' c'] (0, 0) _ rfl r25 underlying24 (by kernel_rfl)) rfl ⟨_, rfl, own_weak HO2.out (by omega), hb8⟩
attribute [-go_sem] Instr.storeAt in
theorem apply_none (l : List Dg.It) (A : Option Addr) (n c : Nat) (hl : l.length = n) (hn : n ≤ 1048576) (hw : ∀ x ∈ l, ItW x) (p : Dg.Pt) (hp : PtW p) (h2 : p.kind ≠ 2) (hv : Dg.validC l = true) (y : Dg.It) (hy : Dg.itemA l p.id = y) (hf : Dg.formedP p = true) (k1 : (p.kind != 1) = true) (y0 : (y.kind == 0) = true)  (w : World) (hI : Its w w.heap.size A l) :
  Calls Tryz.prog 34 #[.agg #[.slice A n c], .agg (Rq0 p)] w (ApR ([], 11) w) := by
 obtain ⟨r1, r2, r3, hb1, hs⟩ := iAlloc3 w (.cells #[.slice A n c] 24) (.cells (Rq0 p) 53) (.cells Rq3 24)
 have hS1 : ApS w.heap.size A n c l p (((w.alloc (.cells #[.slice A n c] 24)).alloc (.cells (Rq0 p) 53)).alloc (.cells Rq3 24)) := ⟨r1, r2, r3, hI.keep hb1⟩
 have hmx := hmxQ
 have HS := hide hs; have HL := hide hl; have HW := hide hw; have HP := hide hp; have H2 := hide h2; have HV := hide hv
 clear r1 r2 r3 hs hI hl hw hp h2 hv
 have HF := hide hf
 clear hf
 have HY := hide hy
 clear hy
 have c1 := iCells0 hS1.r1
 go_enter func34, ntmps34
 go_wp2_with fail
 generalize ((w.alloc (.cells #[.slice A n c] 24)).alloc (.cells (Rq0 p) 53)).alloc (.cells Rq3 24) = w1 at *
 refine (Code.valid_of l A n c HL.out HW.out hn w1 hS1.its true HV.out).mono ?_
 rintro e w2 ⟨rfl, hbq⟩
 have hS2 := hS1.below hbq
 have hb2 := bnext hb1 hbq
 have hsz : w.heap.size + 3 ≤ w2.heap.size := by have := hbq.size; have := HS.out; omega
 clear hbq hS1 hb1 c1 HS
 have hL2 := hide (range_of hS2.r2 0 (Rq0 p) rfl)
 go_wp2_with (refine wpList_load_midW 53 (.tmp 3) rfl (by rfl) (w.heap.size + 1) 0 rfl _ _ hL2.out underlying53 rfl (by kernel_rfl) ?_)
 clear hL2
 refine (formed_of p HP.out H2.out true HF.out w2).mono ?_
 rintro e w3 ⟨rfl, hbq⟩
 have hS3 := hS2.below hbq
 have hb3 := bnext hb2 hbq
 have hsz3 : w.heap.size + 3 ≤ w3.heap.size := by have := hbq.size; omega
 clear hbq hS2 hb2 hsz
 obtain ⟨K0, hK0⟩ : ∃ K, findX l p.id = K := ⟨_, rfl⟩
 have HK0 := hide hK0
 clear hK0
 have HSK := hide (fun X (hX : Below w3.heap.size w3 X) => hS3.below hX)
 go_upto_region 3 with (fail)
 go_cut [6] from 18 to 24 (fun v6 wx => ∃ b6 : Nat, v6 = .pointer (some ⟨b6, 0, none⟩) ∧ w3.heap.size ≤ b6 ∧ wx.heap[b6]? = some (.cells (Rq5 A n c p K0) 143 (0, 0)) ∧ Below w3.heap.size w3 wx)
 case first =>
  refine wp_region_noPanic ?_
  refine wp_region_L (Below w3.heap.size w3) 9 hmx ?_
  have hH0 : (Below w3.heap.size w3) w3.drew := (Below.refl w3.heap.size w3).drew
  generalize w3.drew = u0 at *
  refine tU 0 11 hH0 rfl ?_ (by intro wS hS; have c1 := iCells0 (HSK.out _ hS).r1; go_simp; (try with_reducible rfl))
  refine tkV 1 11 (.agg (Rq0 p)) rfl (by exact yieldsIf_load_mid (by rfl) 53 (.tmp 3) rfl (w.heap.size + 1) 0 rfl (Rq0 p) _ (fun X hX => range_of (HSK.out X hX).r2 0 (Rq0 p) rfl) underlying53 rfl (by kernel_rfl)) hH0 ?_
  simp only [Act.put, pu]
  refine tU 2 11 hH0 rfl ?_ (by intro wS hS; have c1 := iCells0 (HSK.out _ hS).r1; go_simp; (try with_reducible rfl))
  refine tU 3 11 hH0 rfl ?_
  refine tU 4 11 hH0 rfl ?_ (by intro wS hS; have k1 := (jC15 (HSK.out _ hS).r2).2.1; go_simp; (try with_reducible rfl))
  refine wpAnyL_duo (i := 5) (j := 7) (by decide +kernel) (by rfl) (by rfl) (fun K hK => ?_) (fun K hK => ?_)
  ·rw [if_pos (by rfl)]
   go_simp
   refine (Code.find_of l A n c HL.out hn p.id u0 (HSK.out _ hH0).its K0 HK0.out).mono ?_
   rintro e u1 ⟨rfl, hx1⟩
   have hH1 := hH0.trans (hx1.mono hH0.size)
   refine hK.out _ _ (Or.inr hH1) ?_
   clear hK K hx1
   try simp only [Act.put, pu]
   refine tU 6 11 hH1 rfl ?_
   refine oY 7 fun K hK => ?_
   go_simp
   have hx2 := nwB u1 (.cells Rq15 143)
   have hr2 := heap_alloc_new u1 (.cells Rq15 143)
   have hg2 : w3.heap.size ≤ u1.heap.size := hH1.size
   have hH2 := hH1.trans (hx2.mono hH1.size)
   refine hK.out _ _ (Or.inr hH2) ?_
   clear hK K hx2
   try simp only [Act.put, pu]
   generalize u1.alloc (.cells Rq15 143) = u2 at *
   generalize u1.heap.size = g2 at *
   refine oY 8 fun K hK => ?_
   have hst := store_part (ty := 143) u2 g2 0 Rq15 (.agg (Rq5 A n c p K0)) (Rq5 A n c p K0) hr2 infoCh17 (Nat.le_refl _) (one_change A n c p K0) rfl
   go_simp
   clear hst
   have hr3 := setRow_heap u2 g2 _ (Rq5 A n c p K0) _ _ hr2
   have hH3 := below_setRow hH2 hg2 (g := g2) (Rq5 A n c p K0)
   refine hK.out _ _ (Or.inr hH3) ?_
   clear hK K
   try simp only [Act.put, pu]
   refine dnY ?_
   go_wp2_with fail
   go_meet
   case rel => exact ⟨g2, rfl, hg2, hr3, hH3⟩
  ·rw [if_pos (by rfl)]
   go_simp
   have hx2 := nwB u0 (.cells Rq15 143)
   have hr1 := heap_alloc_new u0 (.cells Rq15 143)
   have hg2 : w3.heap.size ≤ u0.heap.size := hH0.size
   have hH1 := hH0.trans (hx2.mono hH0.size)
   refine hK.out _ _ (Or.inr hH1) ?_
   clear hK K hx2
   try simp only [Act.put, pu]
   generalize u0.alloc (.cells Rq15 143) = u1 at *
   generalize u0.heap.size = g2 at *
   refine oY 5 fun K hK => ?_
   go_simp
   refine (Code.find_of l A n c HL.out hn p.id u1 (HSK.out _ hH1).its K0 HK0.out).mono ?_
   rintro e u2 ⟨rfl, hx1⟩
   have hH2 := hH1.trans (hx1.mono hH1.size)
   have hr2 := iNext hr1 hx1
   refine hK.out _ _ (Or.inr hH2) ?_
   clear hK K hx1
   try simp only [Act.put, pu]
   refine tU 6 11 hH2 rfl ?_
   refine oY 8 fun K hK => ?_
   have hst := store_part (ty := 143) u2 g2 0 Rq15 (.agg (Rq5 A n c p K0)) (Rq5 A n c p K0) hr2 infoCh17 (Nat.le_refl _) (one_change A n c p K0) rfl
   go_simp
   clear hst
   have hr3 := setRow_heap u2 g2 _ (Rq5 A n c p K0) _ _ hr2
   have hH3 := below_setRow hH2 hg2 (g := g2) (Rq5 A n c p K0)
   refine hK.out _ _ (Or.inr hH3) ?_
   clear hK K
   try simp only [Act.put, pu]
   refine dnY ?_
   go_wp2_with fail
   go_meet
   case rel => exact ⟨g2, rfl, hg2, hr3, hH3⟩
 case rest =>
  obtain ⟨b6, rfl, hb6, r6, hbw⟩ := hcut
  rename World => wq
  have hS4 := HSK.out _ hbw
  have hb4 := bnext hb3 hbw
  clear hbw HSK hS3 hb3
  have hst := store_new (ty := 146) (T := 146) wq #[.nilFunc, .nilFunc, .nilFunc, .nilFunc, .nilFunc, .nilFunc, .nilFunc, .nilFunc] Rq16 (by kernel_rfl) rfl (by decide +kernel)
  have hb6q := lt_of_block r6
  go_upto_region 5 with (fail)
  clear hst
  have hbn := nwB wq (.cells Rq16 146)
  have r7 := heap_alloc_new wq (.cells Rq16 146)
  have hS5 := hS4.below hbn
  have r65 := iNext r6 hbn
  have hb5 := bnext hb4 hbn
  clear hbn hS4 r6 hb4
  obtain ⟨b7, hb7⟩ : ∃ b7, b7 = wq.heap.size := ⟨_, rfl⟩
  rw [← hb7] at r7 hb6q ⊢
  have HB7 := hide hb7
  clear hb7
  generalize wq.alloc (.cells Rq16 146) = w5 at *
  clear HB7
  have c0 := (jC15 hS5.r2).1
  have k1 := (jC15 hS5.r2).2.1
  have hL6 := hide (range_of r65 0 (Rq5 A n c p K0) rfl)
  go_wp2_with (with_reducible refine wpList_load_mid rfl 143 (.tmp 6) rfl b6 0 rfl _ _ hL6.out underlying143 rfl (by kernel_rfl) ?_)
  refine (item_of l A n c HL.out hn p K0 p.id w5 hS5.its y HY.out).mono ?_
  rintro e w6 ⟨rfl, hbq⟩
  clear hL6 k1 c0
  have hS6 := hS5.below hbq
  have r66 := iNext r65 hbq
  have r76 := iNext r7 hbq
  have hb6' := bnext hb5 hbq
  clear hbq hS5 r65 r7 hb5
  have hst := store_new (ty := 51) (T := 51) w6 Rq1 (Rq4 y) (by kernel_rfl) rfl (all_oneCell_toArray (iLay.one y))
  go_upto_region 7 with (fail)
  clear hst
  have hbn := nwB w6 (.cells (Rq4 y) 51)
  have r8 := heap_alloc_new w6 (.cells (Rq4 y) 51)
  have hS7 := hS6.below hbn
  have r67 := iNext r66 hbn
  have r77 := iNext r76 hbn
  have hb7' := bnext hb6' hbn
  clear hbn hS6 r66 r76 hb6'
  obtain ⟨b8, hb8⟩ : ∃ b8, b8 = w6.heap.size := ⟨_, rfl⟩
  rw [← hb8] at r8 ⊢
  have HB8 := hide hb8
  clear hb8
  generalize w6.alloc (.cells (Rq4 y) 51) = w7 at *
  clear HB8
  have c0 := (jC15 hS7.r2).1
  obtain ⟨z0, z1, z2, z3, z4, z5, z6⟩ := iCells r8
  clear z1 z2 z3 z4 z5
  have hsz7 := lt_of_block hS7.r3
  have hst := store_part (ty := 24) w7 (w.heap.size + 1 + 1) 0 Rq3 (.agg Rq3) Rq3 hS7.r3 infoCode1 (Nat.le_refl _) (one_code _ _ _) rfl
  have r25 := setRow_heap w7 (w.heap.size + 1 + 1) _ Rq3 _ _ hS7.r3
  have hb8 := below_setRow hb7' (by omega) (g := w.heap.size + 1 + 1) Rq3
  go_wp2
  refine bodyPost_ret (results_c8 results34 _ _ (w.heap.size + 1 + 1) 24 #[.slice none 0 0] (0, 0) _ rfl r25 underlying24 (by kernel_rfl)) rfl (ApR.err rfl hb8)
attribute [-go_sem] Instr.storeAt in
theorem apply_art (l : List Dg.It) (A : Option Addr) (n c : Nat) (hl : l.length = n) (hn : n ≤ 1048576) (hw : ∀ x ∈ l, ItW x) (p : Dg.Pt) (hp : PtW p) (h2 : p.kind ≠ 2) (hv : Dg.validC l = true) (y : Dg.It) (hy : Dg.itemA l p.id = y) (hf : Dg.formedP p = true) (k1 : (p.kind != 1) = true) (y0 : (y.kind == 0) = false) (y1 : (y.kind == 1) = true) (k3 : (p.kind != 3) = true) (k4 : (p.kind != 4) = true)  (w : World) (hI : Its w w.heap.size A l) :
  Calls Tryz.prog 34 #[.agg #[.slice A n c], .agg (Rq0 p)] w (ApR ([], 11) w) := by
 obtain ⟨r1, r2, r3, hb1, hs⟩ := iAlloc3 w (.cells #[.slice A n c] 24) (.cells (Rq0 p) 53) (.cells Rq3 24)
 have hS1 : ApS w.heap.size A n c l p (((w.alloc (.cells #[.slice A n c] 24)).alloc (.cells (Rq0 p) 53)).alloc (.cells Rq3 24)) := ⟨r1, r2, r3, hI.keep hb1⟩
 have hmx := hmxQ
 have HS := hide hs; have HL := hide hl; have HW := hide hw; have HP := hide hp; have H2 := hide h2; have HV := hide hv
 clear r1 r2 r3 hs hI hl hw hp h2 hv
 have HF := hide hf
 clear hf
 have HY := hide hy
 clear hy
 have c1 := iCells0 hS1.r1
 go_enter func34, ntmps34
 go_wp2_with fail
 generalize ((w.alloc (.cells #[.slice A n c] 24)).alloc (.cells (Rq0 p) 53)).alloc (.cells Rq3 24) = w1 at *
 refine (Code.valid_of l A n c HL.out HW.out hn w1 hS1.its true HV.out).mono ?_
 rintro e w2 ⟨rfl, hbq⟩
 have hS2 := hS1.below hbq
 have hb2 := bnext hb1 hbq
 have hsz : w.heap.size + 3 ≤ w2.heap.size := by have := hbq.size; have := HS.out; omega
 clear hbq hS1 hb1 c1 HS
 have hL2 := hide (range_of hS2.r2 0 (Rq0 p) rfl)
 go_wp2_with (refine wpList_load_midW 53 (.tmp 3) rfl (by rfl) (w.heap.size + 1) 0 rfl _ _ hL2.out underlying53 rfl (by kernel_rfl) ?_)
 clear hL2
 refine (formed_of p HP.out H2.out true HF.out w2).mono ?_
 rintro e w3 ⟨rfl, hbq⟩
 have hS3 := hS2.below hbq
 have hb3 := bnext hb2 hbq
 have hsz3 : w.heap.size + 3 ≤ w3.heap.size := by have := hbq.size; omega
 clear hbq hS2 hb2 hsz
 obtain ⟨K0, hK0⟩ : ∃ K, findX l p.id = K := ⟨_, rfl⟩
 have HK0 := hide hK0
 clear hK0
 have HSK := hide (fun X (hX : Below w3.heap.size w3 X) => hS3.below hX)
 go_upto_region 3 with (fail)
 go_cut [6] from 18 to 24 (fun v6 wx => ∃ b6 : Nat, v6 = .pointer (some ⟨b6, 0, none⟩) ∧ w3.heap.size ≤ b6 ∧ wx.heap[b6]? = some (.cells (Rq5 A n c p K0) 143 (0, 0)) ∧ Below w3.heap.size w3 wx)
 case first =>
  refine wp_region_noPanic ?_
  refine wp_region_L (Below w3.heap.size w3) 9 hmx ?_
  have hH0 : (Below w3.heap.size w3) w3.drew := (Below.refl w3.heap.size w3).drew
  generalize w3.drew = u0 at *
  refine tU 0 11 hH0 rfl ?_ (by intro wS hS; have c1 := iCells0 (HSK.out _ hS).r1; go_simp; (try with_reducible rfl))
  refine tkV 1 11 (.agg (Rq0 p)) rfl (by exact yieldsIf_load_mid (by rfl) 53 (.tmp 3) rfl (w.heap.size + 1) 0 rfl (Rq0 p) _ (fun X hX => range_of (HSK.out X hX).r2 0 (Rq0 p) rfl) underlying53 rfl (by kernel_rfl)) hH0 ?_
  simp only [Act.put, pu]
  refine tU 2 11 hH0 rfl ?_ (by intro wS hS; have c1 := iCells0 (HSK.out _ hS).r1; go_simp; (try with_reducible rfl))
  refine tU 3 11 hH0 rfl ?_
  refine tU 4 11 hH0 rfl ?_ (by intro wS hS; have k1 := (jC15 (HSK.out _ hS).r2).2.1; go_simp; (try with_reducible rfl))
  refine wpAnyL_duo (i := 5) (j := 7) (by decide +kernel) (by rfl) (by rfl) (fun K hK => ?_) (fun K hK => ?_)
  ·rw [if_pos (by rfl)]
   go_simp
   refine (Code.find_of l A n c HL.out hn p.id u0 (HSK.out _ hH0).its K0 HK0.out).mono ?_
   rintro e u1 ⟨rfl, hx1⟩
   have hH1 := hH0.trans (hx1.mono hH0.size)
   refine hK.out _ _ (Or.inr hH1) ?_
   clear hK K hx1
   try simp only [Act.put, pu]
   refine tU 6 11 hH1 rfl ?_
   refine oY 7 fun K hK => ?_
   go_simp
   have hx2 := nwB u1 (.cells Rq15 143)
   have hr2 := heap_alloc_new u1 (.cells Rq15 143)
   have hg2 : w3.heap.size ≤ u1.heap.size := hH1.size
   have hH2 := hH1.trans (hx2.mono hH1.size)
   refine hK.out _ _ (Or.inr hH2) ?_
   clear hK K hx2
   try simp only [Act.put, pu]
   generalize u1.alloc (.cells Rq15 143) = u2 at *
   generalize u1.heap.size = g2 at *
   refine oY 8 fun K hK => ?_
   have hst := store_part (ty := 143) u2 g2 0 Rq15 (.agg (Rq5 A n c p K0)) (Rq5 A n c p K0) hr2 infoCh17 (Nat.le_refl _) (one_change A n c p K0) rfl
   go_simp
   clear hst
   have hr3 := setRow_heap u2 g2 _ (Rq5 A n c p K0) _ _ hr2
   have hH3 := below_setRow hH2 hg2 (g := g2) (Rq5 A n c p K0)
   refine hK.out _ _ (Or.inr hH3) ?_
   clear hK K
   try simp only [Act.put, pu]
   refine dnY ?_
   go_wp2_with fail
   go_meet
   case rel => exact ⟨g2, rfl, hg2, hr3, hH3⟩
  ·rw [if_pos (by rfl)]
   go_simp
   have hx2 := nwB u0 (.cells Rq15 143)
   have hr1 := heap_alloc_new u0 (.cells Rq15 143)
   have hg2 : w3.heap.size ≤ u0.heap.size := hH0.size
   have hH1 := hH0.trans (hx2.mono hH0.size)
   refine hK.out _ _ (Or.inr hH1) ?_
   clear hK K hx2
   try simp only [Act.put, pu]
   generalize u0.alloc (.cells Rq15 143) = u1 at *
   generalize u0.heap.size = g2 at *
   refine oY 5 fun K hK => ?_
   go_simp
   refine (Code.find_of l A n c HL.out hn p.id u1 (HSK.out _ hH1).its K0 HK0.out).mono ?_
   rintro e u2 ⟨rfl, hx1⟩
   have hH2 := hH1.trans (hx1.mono hH1.size)
   have hr2 := iNext hr1 hx1
   refine hK.out _ _ (Or.inr hH2) ?_
   clear hK K hx1
   try simp only [Act.put, pu]
   refine tU 6 11 hH2 rfl ?_
   refine oY 8 fun K hK => ?_
   have hst := store_part (ty := 143) u2 g2 0 Rq15 (.agg (Rq5 A n c p K0)) (Rq5 A n c p K0) hr2 infoCh17 (Nat.le_refl _) (one_change A n c p K0) rfl
   go_simp
   clear hst
   have hr3 := setRow_heap u2 g2 _ (Rq5 A n c p K0) _ _ hr2
   have hH3 := below_setRow hH2 hg2 (g := g2) (Rq5 A n c p K0)
   refine hK.out _ _ (Or.inr hH3) ?_
   clear hK K
   try simp only [Act.put, pu]
   refine dnY ?_
   go_wp2_with fail
   go_meet
   case rel => exact ⟨g2, rfl, hg2, hr3, hH3⟩
 case rest =>
  obtain ⟨b6, rfl, hb6, r6, hbw⟩ := hcut
  rename World => wq
  have hS4 := HSK.out _ hbw
  have hb4 := bnext hb3 hbw
  clear hbw HSK hS3 hb3
  have hst := store_new (ty := 146) (T := 146) wq #[.nilFunc, .nilFunc, .nilFunc, .nilFunc, .nilFunc, .nilFunc, .nilFunc, .nilFunc] Rq16 (by kernel_rfl) rfl (by decide +kernel)
  have hb6q := lt_of_block r6
  go_upto_region 5 with (fail)
  clear hst
  have hbn := nwB wq (.cells Rq16 146)
  have r7 := heap_alloc_new wq (.cells Rq16 146)
  have hS5 := hS4.below hbn
  have r65 := iNext r6 hbn
  have hb5 := bnext hb4 hbn
  clear hbn hS4 r6 hb4
  obtain ⟨b7, hb7⟩ : ∃ b7, b7 = wq.heap.size := ⟨_, rfl⟩
  rw [← hb7] at r7 hb6q ⊢
  have HB7 := hide hb7
  clear hb7
  generalize wq.alloc (.cells Rq16 146) = w5 at *
  clear HB7
  have c0 := (jC15 hS5.r2).1
  have k1 := (jC15 hS5.r2).2.1
  have hL6 := hide (range_of r65 0 (Rq5 A n c p K0) rfl)
  go_wp2_with (with_reducible refine wpList_load_mid rfl 143 (.tmp 6) rfl b6 0 rfl _ _ hL6.out underlying143 rfl (by kernel_rfl) ?_)
  refine (item_of l A n c HL.out hn p K0 p.id w5 hS5.its y HY.out).mono ?_
  rintro e w6 ⟨rfl, hbq⟩
  clear hL6 k1 c0
  have hS6 := hS5.below hbq
  have r66 := iNext r65 hbq
  have r76 := iNext r7 hbq
  have hb6' := bnext hb5 hbq
  clear hbq hS5 r65 r7 hb5
  have hst := store_new (ty := 51) (T := 51) w6 Rq1 (Rq4 y) (by kernel_rfl) rfl (all_oneCell_toArray (iLay.one y))
  go_upto_region 7 with (fail)
  clear hst
  have hbn := nwB w6 (.cells (Rq4 y) 51)
  have r8 := heap_alloc_new w6 (.cells (Rq4 y) 51)
  have hS7 := hS6.below hbn
  have r67 := iNext r66 hbn
  have r77 := iNext r76 hbn
  have hb7' := bnext hb6' hbn
  clear hbn hS6 r66 r76 hb6'
  obtain ⟨b8, hb8⟩ : ∃ b8, b8 = w6.heap.size := ⟨_, rfl⟩
  rw [← hb8] at r8 ⊢
  have HB8 := hide hb8
  clear hb8
  generalize w6.alloc (.cells (Rq4 y) 51) = w7 at *
  clear HB8
  have c0 := (jC15 hS7.r2).1
  obtain ⟨z0, z1, z2, z3, z4, z5, z6⟩ := iCells r8
  clear z1 z2 z3 z4 z5
  have hsz7 := lt_of_block hS7.r3
  have hst := store_part (ty := 24) w7 (w.heap.size + 1 + 1) 0 Rq3 (.agg Rq3) Rq3 hS7.r3 infoCode1 (Nat.le_refl _) (one_code _ _ _) rfl
  have r25 := setRow_heap w7 (w.heap.size + 1 + 1) _ Rq3 _ _ hS7.r3
  have hb8 := below_setRow hb7' (by omega) (g := w.heap.size + 1 + 1) Rq3
  go_wp2
  refine bodyPost_ret (results_c8 results34 _ _ (w.heap.size + 1 + 1) 24 #[.slice none 0 0] (0, 0) _ rfl r25 underlying24 (by kernel_rfl)) rfl (ApR.err rfl hb8)
attribute [-go_sem] Instr.storeAt in
theorem apply_state (l : List Dg.It) (A : Option Addr) (n c : Nat) (hl : l.length = n) (hn : n ≤ 1048576) (hw : ∀ x ∈ l, ItW x) (p : Dg.Pt) (hp : PtW p) (h2 : p.kind ≠ 2) (hv : Dg.validC l = true) (y : Dg.It) (hy : Dg.itemA l p.id = y) (hf : Dg.formedP p = true) (k1 : (p.kind != 1) = true) (y0 : (y.kind == 0) = false) (y1 : (y.kind == 1) = false) (k6 : (p.kind == 6) = true) (yg : y.gone = false)  (w : World) (hI : Its w w.heap.size A l) :
  Calls Tryz.prog 34 #[.agg #[.slice A n c], .agg (Rq0 p)] w (ApR ([], 12) w) := by
 obtain ⟨r1, r2, r3, hb1, hs⟩ := iAlloc3 w (.cells #[.slice A n c] 24) (.cells (Rq0 p) 53) (.cells Rq3 24)
 have hS1 : ApS w.heap.size A n c l p (((w.alloc (.cells #[.slice A n c] 24)).alloc (.cells (Rq0 p) 53)).alloc (.cells Rq3 24)) := ⟨r1, r2, r3, hI.keep hb1⟩
 have hmx := hmxQ
 have HS := hide hs; have HL := hide hl; have HW := hide hw; have HP := hide hp; have H2 := hide h2; have HV := hide hv
 clear r1 r2 r3 hs hI hl hw hp h2 hv
 have HF := hide hf
 clear hf
 have HY := hide hy
 clear hy
 have YG := hide yg
 clear yg
 have c1 := iCells0 hS1.r1
 go_enter func34, ntmps34
 go_wp2_with fail
 generalize ((w.alloc (.cells #[.slice A n c] 24)).alloc (.cells (Rq0 p) 53)).alloc (.cells Rq3 24) = w1 at *
 refine (Code.valid_of l A n c HL.out HW.out hn w1 hS1.its true HV.out).mono ?_
 rintro e w2 ⟨rfl, hbq⟩
 have hS2 := hS1.below hbq
 have hb2 := bnext hb1 hbq
 have hsz : w.heap.size + 3 ≤ w2.heap.size := by have := hbq.size; have := HS.out; omega
 clear hbq hS1 hb1 c1 HS
 have hL2 := hide (range_of hS2.r2 0 (Rq0 p) rfl)
 go_wp2_with (refine wpList_load_midW 53 (.tmp 3) rfl (by rfl) (w.heap.size + 1) 0 rfl _ _ hL2.out underlying53 rfl (by kernel_rfl) ?_)
 clear hL2
 refine (formed_of p HP.out H2.out true HF.out w2).mono ?_
 rintro e w3 ⟨rfl, hbq⟩
 have hS3 := hS2.below hbq
 have hb3 := bnext hb2 hbq
 have hsz3 : w.heap.size + 3 ≤ w3.heap.size := by have := hbq.size; omega
 clear hbq hS2 hb2 hsz
 obtain ⟨K0, hK0⟩ : ∃ K, findX l p.id = K := ⟨_, rfl⟩
 have HK0 := hide hK0
 clear hK0
 have HSK := hide (fun X (hX : Below w3.heap.size w3 X) => hS3.below hX)
 go_upto_region 3 with (fail)
 go_cut [6] from 18 to 24 (fun v6 wx => ∃ b6 : Nat, v6 = .pointer (some ⟨b6, 0, none⟩) ∧ w3.heap.size ≤ b6 ∧ wx.heap[b6]? = some (.cells (Rq5 A n c p K0) 143 (0, 0)) ∧ Below w3.heap.size w3 wx)
 case first =>
  refine wp_region_noPanic ?_
  refine wp_region_L (Below w3.heap.size w3) 9 hmx ?_
  have hH0 : (Below w3.heap.size w3) w3.drew := (Below.refl w3.heap.size w3).drew
  generalize w3.drew = u0 at *
  refine tU 0 11 hH0 rfl ?_ (by intro wS hS; have c1 := iCells0 (HSK.out _ hS).r1; go_simp; (try with_reducible rfl))
  refine tkV 1 11 (.agg (Rq0 p)) rfl (by exact yieldsIf_load_mid (by rfl) 53 (.tmp 3) rfl (w.heap.size + 1) 0 rfl (Rq0 p) _ (fun X hX => range_of (HSK.out X hX).r2 0 (Rq0 p) rfl) underlying53 rfl (by kernel_rfl)) hH0 ?_
  simp only [Act.put, pu]
  refine tU 2 11 hH0 rfl ?_ (by intro wS hS; have c1 := iCells0 (HSK.out _ hS).r1; go_simp; (try with_reducible rfl))
  refine tU 3 11 hH0 rfl ?_
  refine tU 4 11 hH0 rfl ?_ (by intro wS hS; have k1 := (jC15 (HSK.out _ hS).r2).2.1; go_simp; (try with_reducible rfl))
  refine wpAnyL_duo (i := 5) (j := 7) (by decide +kernel) (by rfl) (by rfl) (fun K hK => ?_) (fun K hK => ?_)
  ·rw [if_pos (by rfl)]
   go_simp
   refine (Code.find_of l A n c HL.out hn p.id u0 (HSK.out _ hH0).its K0 HK0.out).mono ?_
   rintro e u1 ⟨rfl, hx1⟩
   have hH1 := hH0.trans (hx1.mono hH0.size)
   refine hK.out _ _ (Or.inr hH1) ?_
   clear hK K hx1
   try simp only [Act.put, pu]
   refine tU 6 11 hH1 rfl ?_
   refine oY 7 fun K hK => ?_
   go_simp
   have hx2 := nwB u1 (.cells Rq15 143)
   have hr2 := heap_alloc_new u1 (.cells Rq15 143)
   have hg2 : w3.heap.size ≤ u1.heap.size := hH1.size
   have hH2 := hH1.trans (hx2.mono hH1.size)
   refine hK.out _ _ (Or.inr hH2) ?_
   clear hK K hx2
   try simp only [Act.put, pu]
   generalize u1.alloc (.cells Rq15 143) = u2 at *
   generalize u1.heap.size = g2 at *
   refine oY 8 fun K hK => ?_
   have hst := store_part (ty := 143) u2 g2 0 Rq15 (.agg (Rq5 A n c p K0)) (Rq5 A n c p K0) hr2 infoCh17 (Nat.le_refl _) (one_change A n c p K0) rfl
   go_simp
   clear hst
   have hr3 := setRow_heap u2 g2 _ (Rq5 A n c p K0) _ _ hr2
   have hH3 := below_setRow hH2 hg2 (g := g2) (Rq5 A n c p K0)
   refine hK.out _ _ (Or.inr hH3) ?_
   clear hK K
   try simp only [Act.put, pu]
   refine dnY ?_
   go_wp2_with fail
   go_meet
   case rel => exact ⟨g2, rfl, hg2, hr3, hH3⟩
  ·rw [if_pos (by rfl)]
   go_simp
   have hx2 := nwB u0 (.cells Rq15 143)
   have hr1 := heap_alloc_new u0 (.cells Rq15 143)
   have hg2 : w3.heap.size ≤ u0.heap.size := hH0.size
   have hH1 := hH0.trans (hx2.mono hH0.size)
   refine hK.out _ _ (Or.inr hH1) ?_
   clear hK K hx2
   try simp only [Act.put, pu]
   generalize u0.alloc (.cells Rq15 143) = u1 at *
   generalize u0.heap.size = g2 at *
   refine oY 5 fun K hK => ?_
   go_simp
   refine (Code.find_of l A n c HL.out hn p.id u1 (HSK.out _ hH1).its K0 HK0.out).mono ?_
   rintro e u2 ⟨rfl, hx1⟩
   have hH2 := hH1.trans (hx1.mono hH1.size)
   have hr2 := iNext hr1 hx1
   refine hK.out _ _ (Or.inr hH2) ?_
   clear hK K hx1
   try simp only [Act.put, pu]
   refine tU 6 11 hH2 rfl ?_
   refine oY 8 fun K hK => ?_
   have hst := store_part (ty := 143) u2 g2 0 Rq15 (.agg (Rq5 A n c p K0)) (Rq5 A n c p K0) hr2 infoCh17 (Nat.le_refl _) (one_change A n c p K0) rfl
   go_simp
   clear hst
   have hr3 := setRow_heap u2 g2 _ (Rq5 A n c p K0) _ _ hr2
   have hH3 := below_setRow hH2 hg2 (g := g2) (Rq5 A n c p K0)
   refine hK.out _ _ (Or.inr hH3) ?_
   clear hK K
   try simp only [Act.put, pu]
   refine dnY ?_
   go_wp2_with fail
   go_meet
   case rel => exact ⟨g2, rfl, hg2, hr3, hH3⟩
 case rest =>
  obtain ⟨b6, rfl, hb6, r6, hbw⟩ := hcut
  rename World => wq
  have hS4 := HSK.out _ hbw
  have hb4 := bnext hb3 hbw
  clear hbw HSK hS3 hb3
  have hst := store_new (ty := 146) (T := 146) wq #[.nilFunc, .nilFunc, .nilFunc, .nilFunc, .nilFunc, .nilFunc, .nilFunc, .nilFunc] Rq16 (by kernel_rfl) rfl (by decide +kernel)
  have hb6q := lt_of_block r6
  go_upto_region 5 with (fail)
  clear hst
  have hbn := nwB wq (.cells Rq16 146)
  have r7 := heap_alloc_new wq (.cells Rq16 146)
  have hS5 := hS4.below hbn
  have r65 := iNext r6 hbn
  have hb5 := bnext hb4 hbn
  clear hbn hS4 r6 hb4
  obtain ⟨b7, hb7⟩ : ∃ b7, b7 = wq.heap.size := ⟨_, rfl⟩
  rw [← hb7] at r7 hb6q ⊢
  have HB7 := hide hb7
  clear hb7
  generalize wq.alloc (.cells Rq16 146) = w5 at *
  clear HB7
  have c0 := (jC15 hS5.r2).1
  have k1 := (jC15 hS5.r2).2.1
  have hL6 := hide (range_of r65 0 (Rq5 A n c p K0) rfl)
  go_wp2_with (with_reducible refine wpList_load_mid rfl 143 (.tmp 6) rfl b6 0 rfl _ _ hL6.out underlying143 rfl (by kernel_rfl) ?_)
  refine (item_of l A n c HL.out hn p K0 p.id w5 hS5.its y HY.out).mono ?_
  rintro e w6 ⟨rfl, hbq⟩
  clear hL6 k1 c0
  have hS6 := hS5.below hbq
  have r66 := iNext r65 hbq
  have r76 := iNext r7 hbq
  have hb6' := bnext hb5 hbq
  clear hbq hS5 r65 r7 hb5
  have hst := store_new (ty := 51) (T := 51) w6 Rq1 (Rq4 y) (by kernel_rfl) rfl (all_oneCell_toArray (iLay.one y))
  go_upto_region 7 with (fail)
  clear hst
  have hbn := nwB w6 (.cells (Rq4 y) 51)
  have r8 := heap_alloc_new w6 (.cells (Rq4 y) 51)
  have hS7 := hS6.below hbn
  have r67 := iNext r66 hbn
  have r77 := iNext r76 hbn
  have hb7' := bnext hb6' hbn
  clear hbn hS6 r66 r76 hb6'
  obtain ⟨b8, hb8⟩ : ∃ b8, b8 = w6.heap.size := ⟨_, rfl⟩
  rw [← hb8] at r8 ⊢
  have HB8 := hide hb8
  clear hb8
  generalize w6.alloc (.cells (Rq4 y) 51) = w7 at *
  clear HB8
  have c0 := (jC15 hS7.r2).1
  obtain ⟨z0, z1, z2, z3, z4, z5, z6⟩ := iCells r8
  clear z1 z2 z3 z4 z5
  have yg := YG.out
  clear YG
  have hsz7 := lt_of_block hS7.r3
  have hst := store_part (ty := 24) w7 (w.heap.size + 1 + 1) 0 Rq3 (.agg Rq3) Rq3 hS7.r3 infoCode1 (Nat.le_refl _) (one_code _ _ _) rfl
  have r25 := setRow_heap w7 (w.heap.size + 1 + 1) _ Rq3 _ _ hS7.r3
  have hb8 := below_setRow hb7' (by omega) (g := w.heap.size + 1 + 1) Rq3
  go_wp2
  refine bodyPost_ret (results_c8 results34 _ _ (w.heap.size + 1 + 1) 24 #[.slice none 0 0] (0, 0) _ rfl r25 underlying24 (by kernel_rfl)) rfl (ApR.err rfl hb8)
attribute [-go_sem] Instr.storeAt in
theorem apply_gone (l : List Dg.It) (A : Option Addr) (n c : Nat) (hl : l.length = n) (hn : n ≤ 1048576) (hw : ∀ x ∈ l, ItW x) (p : Dg.Pt) (hp : PtW p) (h2 : p.kind ≠ 2) (hv : Dg.validC l = true) (y : Dg.It) (hy : Dg.itemA l p.id = y) (hf : Dg.formedP p = true) (k1 : (p.kind != 1) = true) (y0 : (y.kind == 0) = false) (y1 : (y.kind == 1) = false) (k6 : (p.kind == 6) = false) (k6n : (p.kind != 6) = true) (yg : y.gone = true)  (w : World) (hI : Its w w.heap.size A l) :
  Calls Tryz.prog 34 #[.agg #[.slice A n c], .agg (Rq0 p)] w (ApR ([], 16) w) := by
 obtain ⟨r1, r2, r3, hb1, hs⟩ := iAlloc3 w (.cells #[.slice A n c] 24) (.cells (Rq0 p) 53) (.cells Rq3 24)
 have hS1 : ApS w.heap.size A n c l p (((w.alloc (.cells #[.slice A n c] 24)).alloc (.cells (Rq0 p) 53)).alloc (.cells Rq3 24)) := ⟨r1, r2, r3, hI.keep hb1⟩
 have hmx := hmxQ
 have HS := hide hs; have HL := hide hl; have HW := hide hw; have HP := hide hp; have H2 := hide h2; have HV := hide hv
 clear r1 r2 r3 hs hI hl hw hp h2 hv
 have HF := hide hf
 clear hf
 have HY := hide hy
 clear hy
 have YG := hide yg
 clear yg
 have c1 := iCells0 hS1.r1
 go_enter func34, ntmps34
 go_wp2_with fail
 generalize ((w.alloc (.cells #[.slice A n c] 24)).alloc (.cells (Rq0 p) 53)).alloc (.cells Rq3 24) = w1 at *
 refine (Code.valid_of l A n c HL.out HW.out hn w1 hS1.its true HV.out).mono ?_
 rintro e w2 ⟨rfl, hbq⟩
 have hS2 := hS1.below hbq
 have hb2 := bnext hb1 hbq
 have hsz : w.heap.size + 3 ≤ w2.heap.size := by have := hbq.size; have := HS.out; omega
 clear hbq hS1 hb1 c1 HS
 have hL2 := hide (range_of hS2.r2 0 (Rq0 p) rfl)
 go_wp2_with (refine wpList_load_midW 53 (.tmp 3) rfl (by rfl) (w.heap.size + 1) 0 rfl _ _ hL2.out underlying53 rfl (by kernel_rfl) ?_)
 clear hL2
 refine (formed_of p HP.out H2.out true HF.out w2).mono ?_
 rintro e w3 ⟨rfl, hbq⟩
 have hS3 := hS2.below hbq
 have hb3 := bnext hb2 hbq
 have hsz3 : w.heap.size + 3 ≤ w3.heap.size := by have := hbq.size; omega
 clear hbq hS2 hb2 hsz
 obtain ⟨K0, hK0⟩ : ∃ K, findX l p.id = K := ⟨_, rfl⟩
 have HK0 := hide hK0
 clear hK0
 have HSK := hide (fun X (hX : Below w3.heap.size w3 X) => hS3.below hX)
 go_upto_region 3 with (fail)
 go_cut [6] from 18 to 24 (fun v6 wx => ∃ b6 : Nat, v6 = .pointer (some ⟨b6, 0, none⟩) ∧ w3.heap.size ≤ b6 ∧ wx.heap[b6]? = some (.cells (Rq5 A n c p K0) 143 (0, 0)) ∧ Below w3.heap.size w3 wx)
 case first =>
  refine wp_region_noPanic ?_
  refine wp_region_L (Below w3.heap.size w3) 9 hmx ?_
  have hH0 : (Below w3.heap.size w3) w3.drew := (Below.refl w3.heap.size w3).drew
  generalize w3.drew = u0 at *
  refine tU 0 11 hH0 rfl ?_ (by intro wS hS; have c1 := iCells0 (HSK.out _ hS).r1; go_simp; (try with_reducible rfl))
  refine tkV 1 11 (.agg (Rq0 p)) rfl (by exact yieldsIf_load_mid (by rfl) 53 (.tmp 3) rfl (w.heap.size + 1) 0 rfl (Rq0 p) _ (fun X hX => range_of (HSK.out X hX).r2 0 (Rq0 p) rfl) underlying53 rfl (by kernel_rfl)) hH0 ?_
  simp only [Act.put, pu]
  refine tU 2 11 hH0 rfl ?_ (by intro wS hS; have c1 := iCells0 (HSK.out _ hS).r1; go_simp; (try with_reducible rfl))
  refine tU 3 11 hH0 rfl ?_
  refine tU 4 11 hH0 rfl ?_ (by intro wS hS; have k1 := (jC15 (HSK.out _ hS).r2).2.1; go_simp; (try with_reducible rfl))
  refine wpAnyL_duo (i := 5) (j := 7) (by decide +kernel) (by rfl) (by rfl) (fun K hK => ?_) (fun K hK => ?_)
  ·rw [if_pos (by rfl)]
   go_simp
   refine (Code.find_of l A n c HL.out hn p.id u0 (HSK.out _ hH0).its K0 HK0.out).mono ?_
   rintro e u1 ⟨rfl, hx1⟩
   have hH1 := hH0.trans (hx1.mono hH0.size)
   refine hK.out _ _ (Or.inr hH1) ?_
   clear hK K hx1
   try simp only [Act.put, pu]
   refine tU 6 11 hH1 rfl ?_
   refine oY 7 fun K hK => ?_
   go_simp
   have hx2 := nwB u1 (.cells Rq15 143)
   have hr2 := heap_alloc_new u1 (.cells Rq15 143)
   have hg2 : w3.heap.size ≤ u1.heap.size := hH1.size
   have hH2 := hH1.trans (hx2.mono hH1.size)
   refine hK.out _ _ (Or.inr hH2) ?_
   clear hK K hx2
   try simp only [Act.put, pu]
   generalize u1.alloc (.cells Rq15 143) = u2 at *
   generalize u1.heap.size = g2 at *
   refine oY 8 fun K hK => ?_
   have hst := store_part (ty := 143) u2 g2 0 Rq15 (.agg (Rq5 A n c p K0)) (Rq5 A n c p K0) hr2 infoCh17 (Nat.le_refl _) (one_change A n c p K0) rfl
   go_simp
   clear hst
   have hr3 := setRow_heap u2 g2 _ (Rq5 A n c p K0) _ _ hr2
   have hH3 := below_setRow hH2 hg2 (g := g2) (Rq5 A n c p K0)
   refine hK.out _ _ (Or.inr hH3) ?_
   clear hK K
   try simp only [Act.put, pu]
   refine dnY ?_
   go_wp2_with fail
   go_meet
   case rel => exact ⟨g2, rfl, hg2, hr3, hH3⟩
  ·rw [if_pos (by rfl)]
   go_simp
   have hx2 := nwB u0 (.cells Rq15 143)
   have hr1 := heap_alloc_new u0 (.cells Rq15 143)
   have hg2 : w3.heap.size ≤ u0.heap.size := hH0.size
   have hH1 := hH0.trans (hx2.mono hH0.size)
   refine hK.out _ _ (Or.inr hH1) ?_
   clear hK K hx2
   try simp only [Act.put, pu]
   generalize u0.alloc (.cells Rq15 143) = u1 at *
   generalize u0.heap.size = g2 at *
   refine oY 5 fun K hK => ?_
   go_simp
   refine (Code.find_of l A n c HL.out hn p.id u1 (HSK.out _ hH1).its K0 HK0.out).mono ?_
   rintro e u2 ⟨rfl, hx1⟩
   have hH2 := hH1.trans (hx1.mono hH1.size)
   have hr2 := iNext hr1 hx1
   refine hK.out _ _ (Or.inr hH2) ?_
   clear hK K hx1
   try simp only [Act.put, pu]
   refine tU 6 11 hH2 rfl ?_
   refine oY 8 fun K hK => ?_
   have hst := store_part (ty := 143) u2 g2 0 Rq15 (.agg (Rq5 A n c p K0)) (Rq5 A n c p K0) hr2 infoCh17 (Nat.le_refl _) (one_change A n c p K0) rfl
   go_simp
   clear hst
   have hr3 := setRow_heap u2 g2 _ (Rq5 A n c p K0) _ _ hr2
   have hH3 := below_setRow hH2 hg2 (g := g2) (Rq5 A n c p K0)
   refine hK.out _ _ (Or.inr hH3) ?_
   clear hK K
   try simp only [Act.put, pu]
   refine dnY ?_
   go_wp2_with fail
   go_meet
   case rel => exact ⟨g2, rfl, hg2, hr3, hH3⟩
 case rest =>
  obtain ⟨b6, rfl, hb6, r6, hbw⟩ := hcut
  rename World => wq
  have hS4 := HSK.out _ hbw
  have hb4 := bnext hb3 hbw
  clear hbw HSK hS3 hb3
  have hst := store_new (ty := 146) (T := 146) wq #[.nilFunc, .nilFunc, .nilFunc, .nilFunc, .nilFunc, .nilFunc, .nilFunc, .nilFunc] Rq16 (by kernel_rfl) rfl (by decide +kernel)
  have hb6q := lt_of_block r6
  go_upto_region 5 with (fail)
  clear hst
  have hbn := nwB wq (.cells Rq16 146)
  have r7 := heap_alloc_new wq (.cells Rq16 146)
  have hS5 := hS4.below hbn
  have r65 := iNext r6 hbn
  have hb5 := bnext hb4 hbn
  clear hbn hS4 r6 hb4
  obtain ⟨b7, hb7⟩ : ∃ b7, b7 = wq.heap.size := ⟨_, rfl⟩
  rw [← hb7] at r7 hb6q ⊢
  have HB7 := hide hb7
  clear hb7
  generalize wq.alloc (.cells Rq16 146) = w5 at *
  clear HB7
  have c0 := (jC15 hS5.r2).1
  have k1 := (jC15 hS5.r2).2.1
  have hL6 := hide (range_of r65 0 (Rq5 A n c p K0) rfl)
  go_wp2_with (with_reducible refine wpList_load_mid rfl 143 (.tmp 6) rfl b6 0 rfl _ _ hL6.out underlying143 rfl (by kernel_rfl) ?_)
  refine (item_of l A n c HL.out hn p K0 p.id w5 hS5.its y HY.out).mono ?_
  rintro e w6 ⟨rfl, hbq⟩
  clear hL6 k1 c0
  have hS6 := hS5.below hbq
  have r66 := iNext r65 hbq
  have r76 := iNext r7 hbq
  have hb6' := bnext hb5 hbq
  clear hbq hS5 r65 r7 hb5
  have hst := store_new (ty := 51) (T := 51) w6 Rq1 (Rq4 y) (by kernel_rfl) rfl (all_oneCell_toArray (iLay.one y))
  go_upto_region 7 with (fail)
  clear hst
  have hbn := nwB w6 (.cells (Rq4 y) 51)
  have r8 := heap_alloc_new w6 (.cells (Rq4 y) 51)
  have hS7 := hS6.below hbn
  have r67 := iNext r66 hbn
  have r77 := iNext r76 hbn
  have hb7' := bnext hb6' hbn
  clear hbn hS6 r66 r76 hb6'
  obtain ⟨b8, hb8⟩ : ∃ b8, b8 = w6.heap.size := ⟨_, rfl⟩
  rw [← hb8] at r8 ⊢
  have HB8 := hide hb8
  clear hb8
  generalize w6.alloc (.cells (Rq4 y) 51) = w7 at *
  clear HB8
  have c0 := (jC15 hS7.r2).1
  obtain ⟨z0, z1, z2, z3, z4, z5, z6⟩ := iCells r8
  clear z1 z2 z3 z4 z5
  have yg := YG.out
  clear YG
  have hsz7 := lt_of_block hS7.r3
  have hst := store_part (ty := 24) w7 (w.heap.size + 1 + 1) 0 Rq3 (.agg Rq3) Rq3 hS7.r3 infoCode1 (Nat.le_refl _) (one_code _ _ _) rfl
  have r25 := setRow_heap w7 (w.heap.size + 1 + 1) _ Rq3 _ _ hS7.r3
  have hb8 := below_setRow hb7' (by omega) (g := w.heap.size + 1 + 1) Rq3
  go_wp2
  refine bodyPost_ret (results_c8 results34 _ _ (w.heap.size + 1 + 1) 24 #[.slice none 0 0] (0, 0) _ rfl r25 underlying24 (by kernel_rfl)) rfl (ApR.err rfl hb8)
end Go.Proofs.YtkpbofnnnihbeaaGreat

