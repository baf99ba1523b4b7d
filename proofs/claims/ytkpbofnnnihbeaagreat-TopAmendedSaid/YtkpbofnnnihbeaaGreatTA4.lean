/- Walks and laws of this seat, several texts in one. No conditions but those that each theorem states. -/
import Derived.Test.YtkpbofnnnihbeaaGreatTA3
import Derived.Maps.Own
import Derived.Maps.OwnOps
import Derived.Maps.OwnSet
import Derived.Maps.Views
import Derived.Maps.RangeWalk
import Derived.Maps.Ext
import Derived.DeepKeys5
import Derived.WideKeyEntry
import Derived.Shelf.SlSortCmp.WholeK
import Derived.Shelf.SlGeneric
import Derived.Ground.SlsfProg
import Derived.Test.YtkpbofnnnihbeaaGreatProg
import Derived.Shelf.SlSortCmp.NoneTotal
set_option maxRecDepth 100000
set_option maxHeartbeats 16000000
set_option linter.unusedSimpArgs false
set_option linter.unusedVariables false
namespace Go.Proofs.YtkpbofnnnihbeaaGreat
open Go Go.RowKit Go.Sort Go.Maps Rw Tryz
attribute [-go_sem] Instr.storeAt in
theorem apply_number (l : List Dg.It) (A : Option Addr) (n c : Nat) (hl : l.length = n) (hn : n ≤ 1048576) (hw : ∀ x ∈ l, ItW x) (p : Dg.Pt) (hp : PtW p) (h2 : p.kind ≠ 2) (hv : Dg.validC l = true) (y : Dg.It) (hy : Dg.itemA l p.id = y) (hf : Dg.formedP p = true) (i : Nat) (hi : Dg.idxI l p.id = some i) (hk : p.kind = 3) (y0 : (y.kind == 0) = false) (yg : y.gone = false)  (w : World) (hI : Its w w.heap.size A l) :
  Calls Tryz.prog 34 #[.agg #[.slice A n c], .agg (Rq0 p)] w (ApR (l.set i { y with number := p.number }, 0) w) := by
 obtain ⟨r1, r2, r3, hb1, hs⟩ := iAlloc3 w (.cells #[.slice A n c] 24) (.cells (Rq0 p) 53) (.cells Rq3 24)
 have hS1 : ApS w.heap.size A n c l p (((w.alloc (.cells #[.slice A n c] 24)).alloc (.cells (Rq0 p) 53)).alloc (.cells Rq3 24)) := ⟨r1, r2, r3, hI.keep hb1⟩
 have hmx := hmxQ
 have HK := hide hk
 have k1 : (p.kind != 1) = true := by rw [hk]; rfl
 have k3 : (p.kind != 3) = false := by rw [hk]; rfl
 have k6 : (p.kind == 6) = false := by rw [hk]; rfl
 have k6n : (p.kind != 6) = true := by rw [hk]; rfl
 have hil : i < n := by obtain ⟨h, _⟩ := Dg.idxI_some hi; omega
 have hyi : l.getD i Dg.zeroI = y := by rw [← hy]; unfold Dg.itemA; rw [hi]
 have HK0 := hide (findX_idx hi); have HIX := hide hi; have HYI := hide hyi; have HY := hide hy; have YG := hide yg
 clear hk hyi hi hy yg
 have HS := hide hs; have HL := hide hl; have HW := hide hw; have HP := hide hp; have H2 := hide h2; have HV := hide hv
 clear r1 r2 r3 hs hI hl hw hp h2 hv
 have HF := hide hf
 clear hf
 have c1 := iCells0 hS1.r1
 go_enter func34, ntmps34
 go_wp2_with fail
 generalize ((w.alloc (.cells #[.slice A n c] 24)).alloc (.cells (Rq0 p) 53)).alloc (.cells Rq3 24) = w1 at *
 refine (Code.valid_of l A n c HL.out HW.out hn w1 hS1.its true HV.out).mono ?_
 rintro e w2 ⟨rfl, hbq⟩
 have hS2 := hS1.below hbq
 have hb2 := bnext hb1 hbq
 have hsz : w.heap.size + 3 ≤ w2.heap.size := by have := hbq.size; have := HS.out; omega
 clear hbq hS1 hb1 c1 HS
 have hL2 := hide (range_of hS2.r2 0 (Rq0 p) rfl)
 go_wp2_with (refine wpList_load_midW 53 (.tmp 3) rfl (by rfl) (w.heap.size + 1) 0 rfl _ _ hL2.out underlying53 rfl (by kernel_rfl) ?_)
 clear hL2
 refine (formed_of p HP.out H2.out true HF.out w2).mono ?_
 rintro e w3 ⟨rfl, hbq⟩
 have hS3 := hS2.below hbq
 have hb3 := bnext hb2 hbq
 have hsz3 : w.heap.size + 3 ≤ w3.heap.size := by have := hbq.size; omega
 clear hbq hS2 hb2 hsz
 have HSK := hide (fun X (hX : Below w3.heap.size w3 X) => hS3.below hX)
 go_upto_region 3 with (fail)
 go_cut [6] from 18 to 24 (fun v6 wx => ∃ b6 : Nat, v6 = .pointer (some ⟨b6, 0, none⟩) ∧ w3.heap.size ≤ b6 ∧ wx.heap[b6]? = some (.cells (Rq5 A n c p i) 143 (0, 0)) ∧ Below w3.heap.size w3 wx)
 case first =>
  refine wp_region_noPanic ?_
  refine wp_region_L (Below w3.heap.size w3) 9 hmx ?_
  have hH0 : (Below w3.heap.size w3) w3.drew := (Below.refl w3.heap.size w3).drew
  generalize w3.drew = u0 at *
  refine tU 0 11 hH0 rfl ?_ (by intro wS hS; have c1 := iCells0 (HSK.out _ hS).r1; go_simp; (try with_reducible rfl))
  refine tkV 1 11 (.agg (Rq0 p)) rfl (by exact yieldsIf_load_mid (by rfl) 53 (.tmp 3) rfl (w.heap.size + 1) 0 rfl (Rq0 p) _ (fun X hX => range_of (HSK.out X hX).r2 0 (Rq0 p) rfl) underlying53 rfl (by kernel_rfl)) hH0 ?_
  simp only [Act.put, pu]
  refine tU 2 11 hH0 rfl ?_ (by intro wS hS; have c1 := iCells0 (HSK.out _ hS).r1; go_simp; (try with_reducible rfl))
  refine tU 3 11 hH0 rfl ?_
  refine tU 4 11 hH0 rfl ?_ (by intro wS hS; have k1 := (jC15 (HSK.out _ hS).r2).2.1; go_simp; (try with_reducible rfl))
  refine wpAnyL_duo (i := 5) (j := 7) (by decide +kernel) (by rfl) (by rfl) (fun K hK => ?_) (fun K hK => ?_)
  ·rw [if_pos (by rfl)]
   go_simp
   refine (Code.find_of l A n c HL.out hn p.id u0 (HSK.out _ hH0).its (i : Int) HK0.out).mono ?_
   rintro e u1 ⟨rfl, hx1⟩
   have hH1 := hH0.trans (hx1.mono hH0.size)
   refine hK.out _ _ (Or.inr hH1) ?_
   clear hK K hx1
   try simp only [Act.put, pu]
   refine tU 6 11 hH1 rfl ?_
   refine oY 7 fun K hK => ?_
   go_simp
   have hx2 := nwB u1 (.cells Rq15 143)
   have hr2 := heap_alloc_new u1 (.cells Rq15 143)
   have hg2 : w3.heap.size ≤ u1.heap.size := hH1.size
   have hH2 := hH1.trans (hx2.mono hH1.size)
   refine hK.out _ _ (Or.inr hH2) ?_
   clear hK K hx2
   try simp only [Act.put, pu]
   generalize u1.alloc (.cells Rq15 143) = u2 at *
   generalize u1.heap.size = g2 at *
   refine oY 8 fun K hK => ?_
   have hst := store_part (ty := 143) u2 g2 0 Rq15 (.agg (Rq5 A n c p i)) (Rq5 A n c p i) hr2 infoCh17 (Nat.le_refl _) (one_change A n c p (i : Int)) rfl
   go_simp
   clear hst
   have hr3 := setRow_heap u2 g2 _ (Rq5 A n c p i) _ _ hr2
   have hH3 := below_setRow hH2 hg2 (g := g2) (Rq5 A n c p i)
   refine hK.out _ _ (Or.inr hH3) ?_
   clear hK K
   try simp only [Act.put, pu]
   refine dnY ?_
   go_wp2_with fail
   go_meet
   case rel => exact ⟨g2, rfl, hg2, hr3, hH3⟩
  ·rw [if_pos (by rfl)]
   go_simp
   have hx2 := nwB u0 (.cells Rq15 143)
   have hr1 := heap_alloc_new u0 (.cells Rq15 143)
   have hg2 : w3.heap.size ≤ u0.heap.size := hH0.size
   have hH1 := hH0.trans (hx2.mono hH0.size)
   refine hK.out _ _ (Or.inr hH1) ?_
   clear hK K hx2
   try simp only [Act.put, pu]
   generalize u0.alloc (.cells Rq15 143) = u1 at *
   generalize u0.heap.size = g2 at *
   refine oY 5 fun K hK => ?_
   go_simp
   refine (Code.find_of l A n c HL.out hn p.id u1 (HSK.out _ hH1).its (i : Int) HK0.out).mono ?_
   rintro e u2 ⟨rfl, hx1⟩
   have hH2 := hH1.trans (hx1.mono hH1.size)
   have hr2 := iNext hr1 hx1
   refine hK.out _ _ (Or.inr hH2) ?_
   clear hK K hx1
   try simp only [Act.put, pu]
   refine tU 6 11 hH2 rfl ?_
   refine oY 8 fun K hK => ?_
   have hst := store_part (ty := 143) u2 g2 0 Rq15 (.agg (Rq5 A n c p i)) (Rq5 A n c p i) hr2 infoCh17 (Nat.le_refl _) (one_change A n c p (i : Int)) rfl
   go_simp
   clear hst
   have hr3 := setRow_heap u2 g2 _ (Rq5 A n c p i) _ _ hr2
   have hH3 := below_setRow hH2 hg2 (g := g2) (Rq5 A n c p i)
   refine hK.out _ _ (Or.inr hH3) ?_
   clear hK K
   try simp only [Act.put, pu]
   refine dnY ?_
   go_wp2_with fail
   go_meet
   case rel => exact ⟨g2, rfl, hg2, hr3, hH3⟩
 case rest =>
  obtain ⟨b6, rfl, hb6, r6, hbw⟩ := hcut
  rename World => wq
  have hS4 := HSK.out _ hbw
  have hb4 := bnext hb3 hbw
  clear hbw HSK hS3 hb3
  have hst := store_new (ty := 146) (T := 146) wq #[.nilFunc, .nilFunc, .nilFunc, .nilFunc, .nilFunc, .nilFunc, .nilFunc, .nilFunc] Rq16 (by kernel_rfl) rfl (by decide +kernel)
  have hb6q := lt_of_block r6
  go_upto_region 5 with (fail)
  clear hst
  have hbn := nwB wq (.cells Rq16 146)
  have r7 := heap_alloc_new wq (.cells Rq16 146)
  have hS5 := hS4.below hbn
  have r65 := iNext r6 hbn
  have hb5 := bnext hb4 hbn
  clear hbn hS4 r6 hb4
  obtain ⟨b7, hb7⟩ : ∃ b7, b7 = wq.heap.size := ⟨_, rfl⟩
  rw [← hb7] at r7 hb6q ⊢
  have HB7 := hide hb7
  clear hb7
  generalize wq.alloc (.cells Rq16 146) = w5 at *
  clear HB7
  have c0 := (jC15 hS5.r2).1
  have k1 := (jC15 hS5.r2).2.1
  have hL6 := hide (range_of r65 0 (Rq5 A n c p i) rfl)
  go_wp2_with (with_reducible refine wpList_load_mid rfl 143 (.tmp 6) rfl b6 0 rfl _ _ hL6.out underlying143 rfl (by kernel_rfl) ?_)
  refine (item_of l A n c HL.out hn p (i : Int) p.id w5 hS5.its y HY.out).mono ?_
  rintro e w6 ⟨rfl, hbq⟩
  clear hL6 k1 c0
  have hS6 := hS5.below hbq
  have r66 := iNext r65 hbq
  have r76 := iNext r7 hbq
  have hb6' := bnext hb5 hbq
  clear hbq hS5 r65 r7 hb5
  have hst := store_new (ty := 51) (T := 51) w6 Rq1 (Rq4 y) (by kernel_rfl) rfl (all_oneCell_toArray (iLay.one y))
  go_upto_region 7 with (fail)
  clear hst
  have hbn := nwB w6 (.cells (Rq4 y) 51)
  have r8 := heap_alloc_new w6 (.cells (Rq4 y) 51)
  have hS7 := hS6.below hbn
  have r67 := iNext r66 hbn
  have r77 := iNext r76 hbn
  have hb7' := bnext hb6' hbn
  clear hbn hS6 r66 r76 hb6'
  obtain ⟨b8, hb8⟩ : ∃ b8, b8 = w6.heap.size := ⟨_, rfl⟩
  rw [← hb8] at r8 ⊢
  have HB8 := hide hb8
  clear hb8
  generalize w6.alloc (.cells (Rq4 y) 51) = w7 at *
  clear HB8
  have c0 := (jC15 hS7.r2).1
  obtain ⟨z0, z1, z2, z3, z4, z5, z6⟩ := iCells r8
  clear z1 z2 z3 z4 z5
  have yg := YG.out
  clear YG
  cases y1 : (y.kind == 1)
  all_goals
   go_upto_region 14 with (fail)
   clear z0 z6 r8
   clear c0
   have HSK2 := hide (fun X (hX : Below w7.heap.size w7 X) => hS7.below hX)
   have HR6 := hide (fun X (hX : Below w7.heap.size w7 X) => iNext r67 hX)
   have HR7 := hide (fun X (hX : Below w7.heap.size w7 X) => iNext r77 hX)
   have hsz5 := lt_of_block hS7.r3
   refine wp_region_noPanic ?_
   refine wp_region_L (Below w7.heap.size w7) 8 hmx ?_
   have hH0 : (Below w7.heap.size w7) w7.drew := (Below.refl w7.heap.size w7).drew
   generalize w7.drew = u0 at *
   refine tU 0 12 hH0 rfl ?_
   refine tU 1 12 hH0 rfl ?_ (by intro wS hS; have c0 := (jC15 (HSK2.out _ hS).r2).1; go_simp; (try with_reducible rfl))
   refine tU 2 12 hH0 rfl ?_ (by intro wS hS; have hk := HK.out; go_simp; (try with_reducible rfl))
   refine tU 3 12 hH0 rfl ?_ (by intro wS hS; have cf := cell_of_row _ _ 3 _ _ (0, 0) (HR7.out _ hS); go_simp; (try with_reducible rfl))
   refine tkV 4 12 (.agg (Rq5 A n c p i)) rfl (by exact yieldsIf_load_mid (by rfl) 143 (.tmp 6) rfl b6 0 rfl (Rq5 A n c p i) _ (fun X hX => range_of (HR6.out X hX) 0 (Rq5 A n c p i) rfl) underlying143 rfl (by kernel_rfl)) hH0 ?_
   simp only [Act.put, pu]
   refine oY 5 fun K hK => ?_
   go_simp
   refine (number_of l A n c HL.out hn p i hil y HYI.out u0 (HSK2.out _ hH0).its).mono ?_
   rintro e u1 ⟨v', rfl, hO, hx1⟩
   have hH1 := hH0.trans (hx1.mono hH0.size)
   have hszu := hH0.size
   refine hK.out _ _ (Or.inr hH1) ?_
   clear hK K hx1
   try simp only [Act.put, pu]
   refine tU 6 12 hH1 rfl ?_
   refine tU 7 12 hH1 rfl ?_
   refine oY 8 fun K hK => ?_
   obtain ⟨A', c', hv', _, _⟩ := hO.row
   obtain ⟨m', hm'⟩ : ∃ m', (l.set i { y with number := p.number }, 0).1.length = m' := ⟨_, rfl⟩
   rw [hm'] at hv'
   clear hm'
   subst hv'
   have hst := store_part (ty := 24) u1 (w.heap.size + 1 + 1) 0 Rq3 (.agg #[.slice A' m' c']) #[.slice A' m' c'] (HSK2.out _ hH1).r3 infoCode1 (Nat.le_refl _) (one_code _ _ _) rfl
   have r25 := setRow_heap u1 (w.heap.size + 1 + 1) _ #[.slice A' m' c'] _ _ (HSK2.out _ hH1).r3
   have hb8 := below_setRow (bnext hb7' hH1) (by omega) (g := w.heap.size + 1 + 1) #[.slice A' m' c']
   have HO2 := hide (own_other hO (g := w.heap.size + 1 + 1) (fun e => by have := (World.ownsRow.lt hO _ e).1; omega) #[.slice A' m' c'])
   go_simp
   clear hst hO
   refine hK.out _ _ (Or.inl (by rfl)) ?_
   clear hK K hH1
   generalize u1.setRow (w.heap.size + 1 + 1) #[.slice A' m' c'] = u2 at *
   try simp only [Act.put, pu]
   refine oY 9 fun K hK => ?_
   go_simp
   refine hK.out _ _ (Or.inl (by rfl)) ?_
   clear hK K
   try simp only [Act.put, pu]
   refine dnY ?_
   have hsz0 : w.heap.size ≤ u0.heap.size := by have := hH0.size; omega
   go_wp2
   refine bodyPost_ret (results_c8 results34 _ _ (w.heap.size + 1 + 1) 24 #[.slice A' m' c'] (0, 0) _ rfl r25 underlying24 (by kernel_rfl)) rfl ⟨_, rfl, own_weak HO2.out (by omega), hb8⟩
attribute [-go_sem] Instr.storeAt in
theorem apply_repeal (l : List Dg.It) (A : Option Addr) (n c : Nat) (hl : l.length = n) (hn : n ≤ 1048576) (hw : ∀ x ∈ l, ItW x) (p : Dg.Pt) (hp : PtW p) (h2 : p.kind ≠ 2) (hv : Dg.validC l = true) (y : Dg.It) (hy : Dg.itemA l p.id = y) (hf : Dg.formedP p = true) (i : Nat) (hi : Dg.idxI l p.id = some i) (hk : p.kind = 5) (y0 : (y.kind == 0) = false) (y1 : (y.kind == 1) = false) (yg : y.gone = false)  (w : World) (hI : Its w w.heap.size A l) :
  Calls Tryz.prog 34 #[.agg #[.slice A n c], .agg (Rq0 p)] w (ApR (l.set i { y with gone := true }, 0) w) := by
 obtain ⟨r1, r2, r3, hb1, hs⟩ := iAlloc3 w (.cells #[.slice A n c] 24) (.cells (Rq0 p) 53) (.cells Rq3 24)
 have hS1 : ApS w.heap.size A n c l p (((w.alloc (.cells #[.slice A n c] 24)).alloc (.cells (Rq0 p) 53)).alloc (.cells Rq3 24)) := ⟨r1, r2, r3, hI.keep hb1⟩
 have hmx := hmxQ
 have HK := hide hk
 have k1 : (p.kind != 1) = true := by rw [hk]; rfl
 have k6 : (p.kind == 6) = false := by rw [hk]; rfl
 have k6n : (p.kind != 6) = true := by rw [hk]; rfl
 have hil : i < n := by obtain ⟨h, _⟩ := Dg.idxI_some hi; omega
 have hyi : l.getD i Dg.zeroI = y := by rw [← hy]; unfold Dg.itemA; rw [hi]
 have HK0 := hide (findX_idx hi); have HIX := hide hi; have HYI := hide hyi; have HY := hide hy; have YG := hide yg
 clear hk hyi hi hy yg
 have HS := hide hs; have HL := hide hl; have HW := hide hw; have HP := hide hp; have H2 := hide h2; have HV := hide hv
 clear r1 r2 r3 hs hI hl hw hp h2 hv
 have HF := hide hf
 clear hf
 have c1 := iCells0 hS1.r1
 go_enter func34, ntmps34
 go_wp2_with fail
 generalize ((w.alloc (.cells #[.slice A n c] 24)).alloc (.cells (Rq0 p) 53)).alloc (.cells Rq3 24) = w1 at *
 refine (Code.valid_of l A n c HL.out HW.out hn w1 hS1.its true HV.out).mono ?_
 rintro e w2 ⟨rfl, hbq⟩
 have hS2 := hS1.below hbq
 have hb2 := bnext hb1 hbq
 have hsz : w.heap.size + 3 ≤ w2.heap.size := by have := hbq.size; have := HS.out; omega
 clear hbq hS1 hb1 c1 HS
 have hL2 := hide (range_of hS2.r2 0 (Rq0 p) rfl)
 go_wp2_with (refine wpList_load_midW 53 (.tmp 3) rfl (by rfl) (w.heap.size + 1) 0 rfl _ _ hL2.out underlying53 rfl (by kernel_rfl) ?_)
 clear hL2
 refine (formed_of p HP.out H2.out true HF.out w2).mono ?_
 rintro e w3 ⟨rfl, hbq⟩
 have hS3 := hS2.below hbq
 have hb3 := bnext hb2 hbq
 have hsz3 : w.heap.size + 3 ≤ w3.heap.size := by have := hbq.size; omega
 clear hbq hS2 hb2 hsz
 have HSK := hide (fun X (hX : Below w3.heap.size w3 X) => hS3.below hX)
 go_upto_region 3 with (fail)
 go_cut [6] from 18 to 24 (fun v6 wx => ∃ b6 : Nat, v6 = .pointer (some ⟨b6, 0, none⟩) ∧ w3.heap.size ≤ b6 ∧ wx.heap[b6]? = some (.cells (Rq5 A n c p i) 143 (0, 0)) ∧ Below w3.heap.size w3 wx)
 case first =>
  refine wp_region_noPanic ?_
  refine wp_region_L (Below w3.heap.size w3) 9 hmx ?_
  have hH0 : (Below w3.heap.size w3) w3.drew := (Below.refl w3.heap.size w3).drew
  generalize w3.drew = u0 at *
  refine tU 0 11 hH0 rfl ?_ (by intro wS hS; have c1 := iCells0 (HSK.out _ hS).r1; go_simp; (try with_reducible rfl))
  refine tkV 1 11 (.agg (Rq0 p)) rfl (by exact yieldsIf_load_mid (by rfl) 53 (.tmp 3) rfl (w.heap.size + 1) 0 rfl (Rq0 p) _ (fun X hX => range_of (HSK.out X hX).r2 0 (Rq0 p) rfl) underlying53 rfl (by kernel_rfl)) hH0 ?_
  simp only [Act.put, pu]
  refine tU 2 11 hH0 rfl ?_ (by intro wS hS; have c1 := iCells0 (HSK.out _ hS).r1; go_simp; (try with_reducible rfl))
  refine tU 3 11 hH0 rfl ?_
  refine tU 4 11 hH0 rfl ?_ (by intro wS hS; have k1 := (jC15 (HSK.out _ hS).r2).2.1; go_simp; (try with_reducible rfl))
  refine wpAnyL_duo (i := 5) (j := 7) (by decide +kernel) (by rfl) (by rfl) (fun K hK => ?_) (fun K hK => ?_)
  ·rw [if_pos (by rfl)]
   go_simp
   refine (Code.find_of l A n c HL.out hn p.id u0 (HSK.out _ hH0).its (i : Int) HK0.out).mono ?_
   rintro e u1 ⟨rfl, hx1⟩
   have hH1 := hH0.trans (hx1.mono hH0.size)
   refine hK.out _ _ (Or.inr hH1) ?_
   clear hK K hx1
   try simp only [Act.put, pu]
   refine tU 6 11 hH1 rfl ?_
   refine oY 7 fun K hK => ?_
   go_simp
   have hx2 := nwB u1 (.cells Rq15 143)
   have hr2 := heap_alloc_new u1 (.cells Rq15 143)
   have hg2 : w3.heap.size ≤ u1.heap.size := hH1.size
   have hH2 := hH1.trans (hx2.mono hH1.size)
   refine hK.out _ _ (Or.inr hH2) ?_
   clear hK K hx2
   try simp only [Act.put, pu]
   generalize u1.alloc (.cells Rq15 143) = u2 at *
   generalize u1.heap.size = g2 at *
   refine oY 8 fun K hK => ?_
   have hst := store_part (ty := 143) u2 g2 0 Rq15 (.agg (Rq5 A n c p i)) (Rq5 A n c p i) hr2 infoCh17 (Nat.le_refl _) (one_change A n c p (i : Int)) rfl
   go_simp
   clear hst
   have hr3 := setRow_heap u2 g2 _ (Rq5 A n c p i) _ _ hr2
   have hH3 := below_setRow hH2 hg2 (g := g2) (Rq5 A n c p i)
   refine hK.out _ _ (Or.inr hH3) ?_
   clear hK K
   try simp only [Act.put, pu]
   refine dnY ?_
   go_wp2_with fail
   go_meet
   case rel => exact ⟨g2, rfl, hg2, hr3, hH3⟩
  ·rw [if_pos (by rfl)]
   go_simp
   have hx2 := nwB u0 (.cells Rq15 143)
   have hr1 := heap_alloc_new u0 (.cells Rq15 143)
   have hg2 : w3.heap.size ≤ u0.heap.size := hH0.size
   have hH1 := hH0.trans (hx2.mono hH0.size)
   refine hK.out _ _ (Or.inr hH1) ?_
   clear hK K hx2
   try simp only [Act.put, pu]
   generalize u0.alloc (.cells Rq15 143) = u1 at *
   generalize u0.heap.size = g2 at *
   refine oY 5 fun K hK => ?_
   go_simp
   refine (Code.find_of l A n c HL.out hn p.id u1 (HSK.out _ hH1).its (i : Int) HK0.out).mono ?_
   rintro e u2 ⟨rfl, hx1⟩
   have hH2 := hH1.trans (hx1.mono hH1.size)
   have hr2 := iNext hr1 hx1
   refine hK.out _ _ (Or.inr hH2) ?_
   clear hK K hx1
   try simp only [Act.put, pu]
   refine tU 6 11 hH2 rfl ?_
   refine oY 8 fun K hK => ?_
   have hst := store_part (ty := 143) u2 g2 0 Rq15 (.agg (Rq5 A n c p i)) (Rq5 A n c p i) hr2 infoCh17 (Nat.le_refl _) (one_change A n c p (i : Int)) rfl
   go_simp
   clear hst
   have hr3 := setRow_heap u2 g2 _ (Rq5 A n c p i) _ _ hr2
   have hH3 := below_setRow hH2 hg2 (g := g2) (Rq5 A n c p i)
   refine hK.out _ _ (Or.inr hH3) ?_
   clear hK K
   try simp only [Act.put, pu]
   refine dnY ?_
   go_wp2_with fail
   go_meet
   case rel => exact ⟨g2, rfl, hg2, hr3, hH3⟩
 case rest =>
  obtain ⟨b6, rfl, hb6, r6, hbw⟩ := hcut
  rename World => wq
  have hS4 := HSK.out _ hbw
  have hb4 := bnext hb3 hbw
  clear hbw HSK hS3 hb3
  have hst := store_new (ty := 146) (T := 146) wq #[.nilFunc, .nilFunc, .nilFunc, .nilFunc, .nilFunc, .nilFunc, .nilFunc, .nilFunc] Rq16 (by kernel_rfl) rfl (by decide +kernel)
  have hb6q := lt_of_block r6
  go_upto_region 5 with (fail)
  clear hst
  have hbn := nwB wq (.cells Rq16 146)
  have r7 := heap_alloc_new wq (.cells Rq16 146)
  have hS5 := hS4.below hbn
  have r65 := iNext r6 hbn
  have hb5 := bnext hb4 hbn
  clear hbn hS4 r6 hb4
  obtain ⟨b7, hb7⟩ : ∃ b7, b7 = wq.heap.size := ⟨_, rfl⟩
  rw [← hb7] at r7 hb6q ⊢
  have HB7 := hide hb7
  clear hb7
  generalize wq.alloc (.cells Rq16 146) = w5 at *
  clear HB7
  have c0 := (jC15 hS5.r2).1
  have k1 := (jC15 hS5.r2).2.1
  have hL6 := hide (range_of r65 0 (Rq5 A n c p i) rfl)
  go_wp2_with (with_reducible refine wpList_load_mid rfl 143 (.tmp 6) rfl b6 0 rfl _ _ hL6.out underlying143 rfl (by kernel_rfl) ?_)
  refine (item_of l A n c HL.out hn p (i : Int) p.id w5 hS5.its y HY.out).mono ?_
  rintro e w6 ⟨rfl, hbq⟩
  clear hL6 k1 c0
  have hS6 := hS5.below hbq
  have r66 := iNext r65 hbq
  have r76 := iNext r7 hbq
  have hb6' := bnext hb5 hbq
  clear hbq hS5 r65 r7 hb5
  have hst := store_new (ty := 51) (T := 51) w6 Rq1 (Rq4 y) (by kernel_rfl) rfl (all_oneCell_toArray (iLay.one y))
  go_upto_region 7 with (fail)
  clear hst
  have hbn := nwB w6 (.cells (Rq4 y) 51)
  have r8 := heap_alloc_new w6 (.cells (Rq4 y) 51)
  have hS7 := hS6.below hbn
  have r67 := iNext r66 hbn
  have r77 := iNext r76 hbn
  have hb7' := bnext hb6' hbn
  clear hbn hS6 r66 r76 hb6'
  obtain ⟨b8, hb8⟩ : ∃ b8, b8 = w6.heap.size := ⟨_, rfl⟩
  rw [← hb8] at r8 ⊢
  have HB8 := hide hb8
  clear hb8
  generalize w6.alloc (.cells (Rq4 y) 51) = w7 at *
  clear HB8
  have c0 := (jC15 hS7.r2).1
  obtain ⟨z0, z1, z2, z3, z4, z5, z6⟩ := iCells r8
  clear z1 z2 z3 z4 z5
  have yg := YG.out
  clear YG
  go_upto_region 14 with (fail)
  clear z0 z6 r8
  clear c0
  have HSK2 := hide (fun X (hX : Below w7.heap.size w7 X) => hS7.below hX)
  have HR6 := hide (fun X (hX : Below w7.heap.size w7 X) => iNext r67 hX)
  have HR7 := hide (fun X (hX : Below w7.heap.size w7 X) => iNext r77 hX)
  have hsz5 := lt_of_block hS7.r3
  refine wp_region_noPanic ?_
  refine wp_region_L (Below w7.heap.size w7) 8 hmx ?_
  have hH0 : (Below w7.heap.size w7) w7.drew := (Below.refl w7.heap.size w7).drew
  generalize w7.drew = u0 at *
  refine tU 0 12 hH0 rfl ?_
  refine tU 1 12 hH0 rfl ?_ (by intro wS hS; have c0 := (jC15 (HSK2.out _ hS).r2).1; go_simp; (try with_reducible rfl))
  refine tU 2 12 hH0 rfl ?_ (by intro wS hS; have hk := HK.out; go_simp; (try with_reducible rfl))
  refine tU 3 12 hH0 rfl ?_ (by intro wS hS; have cf := cell_of_row _ _ 5 _ _ (0, 0) (HR7.out _ hS); go_simp; (try with_reducible rfl))
  refine tkV 4 12 (.agg (Rq5 A n c p i)) rfl (by exact yieldsIf_load_mid (by rfl) 143 (.tmp 6) rfl b6 0 rfl (Rq5 A n c p i) _ (fun X hX => range_of (HR6.out X hX) 0 (Rq5 A n c p i) rfl) underlying143 rfl (by kernel_rfl)) hH0 ?_
  simp only [Act.put, pu]
  refine oY 5 fun K hK => ?_
  go_simp
  refine (gone_of l A n c HL.out hn p i hil y HYI.out true (by rw [HK.out]; rfl) u0 (HSK2.out _ hH0).its).mono ?_
  rintro e u1 ⟨v', rfl, hO, hx1⟩
  have hH1 := hH0.trans (hx1.mono hH0.size)
  have hszu := hH0.size
  refine hK.out _ _ (Or.inr hH1) ?_
  clear hK K hx1
  try simp only [Act.put, pu]
  refine tU 6 12 hH1 rfl ?_
  refine tU 7 12 hH1 rfl ?_
  refine oY 8 fun K hK => ?_
  obtain ⟨A', c', hv', _, _⟩ := hO.row
  obtain ⟨m', hm'⟩ : ∃ m', (l.set i { y with gone := true }, 0).1.length = m' := ⟨_, rfl⟩
  rw [hm'] at hv'
  clear hm'
  subst hv'
  have hst := store_part (ty := 24) u1 (w.heap.size + 1 + 1) 0 Rq3 (.agg #[.slice A' m' c']) #[.slice A' m' c'] (HSK2.out _ hH1).r3 infoCode1 (Nat.le_refl _) (one_code _ _ _) rfl
  have r25 := setRow_heap u1 (w.heap.size + 1 + 1) _ #[.slice A' m' c'] _ _ (HSK2.out _ hH1).r3
  have hb8 := below_setRow (bnext hb7' hH1) (by omega) (g := w.heap.size + 1 + 1) #[.slice A' m' c']
  have HO2 := hide (own_other hO (g := w.heap.size + 1 + 1) (fun e => by have := (World.ownsRow.lt hO _ e).1; omega) #[.slice A' m' c'])
  go_simp
  clear hst hO
  refine hK.out _ _ (Or.inl (by rfl)) ?_
  clear hK K hH1
  generalize u1.setRow (w.heap.size + 1 + 1) #[.slice A' m' c'] = u2 at *
  try simp only [Act.put, pu]
  refine oY 9 fun K hK => ?_
  go_simp
  refine hK.out _ _ (Or.inl (by rfl)) ?_
  clear hK K
  try simp only [Act.put, pu]
  refine dnY ?_
  have hsz0 : w.heap.size ≤ u0.heap.size := by have := hH0.size; omega
  go_wp2
  refine bodyPost_ret (results_c8 results34 _ _ (w.heap.size + 1 + 1) 24 #[.slice A' m' c'] (0, 0) _ rfl r25 underlying24 (by kernel_rfl)) rfl ⟨_, rfl, own_weak HO2.out (by omega), hb8⟩
attribute [-go_sem] Instr.storeAt in
theorem apply_revive (l : List Dg.It) (A : Option Addr) (n c : Nat) (hl : l.length = n) (hn : n ≤ 1048576) (hw : ∀ x ∈ l, ItW x) (p : Dg.Pt) (hp : PtW p) (h2 : p.kind ≠ 2) (hv : Dg.validC l = true) (y : Dg.It) (hy : Dg.itemA l p.id = y) (hf : Dg.formedP p = true) (i : Nat) (hi : Dg.idxI l p.id = some i) (hk : p.kind = 6) (y0 : (y.kind == 0) = false) (y1 : (y.kind == 1) = false) (yg : y.gone = true)  (w : World) (hI : Its w w.heap.size A l) :
  Calls Tryz.prog 34 #[.agg #[.slice A n c], .agg (Rq0 p)] w (ApR (l.set i { y with gone := false }, 0) w) := by
 obtain ⟨r1, r2, r3, hb1, hs⟩ := iAlloc3 w (.cells #[.slice A n c] 24) (.cells (Rq0 p) 53) (.cells Rq3 24)
 have hS1 : ApS w.heap.size A n c l p (((w.alloc (.cells #[.slice A n c] 24)).alloc (.cells (Rq0 p) 53)).alloc (.cells Rq3 24)) := ⟨r1, r2, r3, hI.keep hb1⟩
 have hmx := hmxQ
 have HK := hide hk
 have k1 : (p.kind != 1) = true := by rw [hk]; rfl
 have k6 : (p.kind == 6) = true := by rw [hk]; rfl
 have k6n : (p.kind != 6) = false := by rw [hk]; rfl
 have hil : i < n := by obtain ⟨h, _⟩ := Dg.idxI_some hi; omega
 have hyi : l.getD i Dg.zeroI = y := by rw [← hy]; unfold Dg.itemA; rw [hi]
 have HK0 := hide (findX_idx hi); have HIX := hide hi; have HYI := hide hyi; have HY := hide hy; have YG := hide yg
 clear hk hyi hi hy yg
 have HS := hide hs; have HL := hide hl; have HW := hide hw; have HP := hide hp; have H2 := hide h2; have HV := hide hv
 clear r1 r2 r3 hs hI hl hw hp h2 hv
 have HF := hide hf
 clear hf
 have c1 := iCells0 hS1.r1
 go_enter func34, ntmps34
 go_wp2_with fail
 generalize ((w.alloc (.cells #[.slice A n c] 24)).alloc (.cells (Rq0 p) 53)).alloc (.cells Rq3 24) = w1 at *
 refine (Code.valid_of l A n c HL.out HW.out hn w1 hS1.its true HV.out).mono ?_
 rintro e w2 ⟨rfl, hbq⟩
 have hS2 := hS1.below hbq
 have hb2 := bnext hb1 hbq
 have hsz : w.heap.size + 3 ≤ w2.heap.size := by have := hbq.size; have := HS.out; omega
 clear hbq hS1 hb1 c1 HS
 have hL2 := hide (range_of hS2.r2 0 (Rq0 p) rfl)
 go_wp2_with (refine wpList_load_midW 53 (.tmp 3) rfl (by rfl) (w.heap.size + 1) 0 rfl _ _ hL2.out underlying53 rfl (by kernel_rfl) ?_)
 clear hL2
 refine (formed_of p HP.out H2.out true HF.out w2).mono ?_
 rintro e w3 ⟨rfl, hbq⟩
 have hS3 := hS2.below hbq
 have hb3 := bnext hb2 hbq
 have hsz3 : w.heap.size + 3 ≤ w3.heap.size := by have := hbq.size; omega
 clear hbq hS2 hb2 hsz
 have HSK := hide (fun X (hX : Below w3.heap.size w3 X) => hS3.below hX)
 go_upto_region 3 with (fail)
 go_cut [6] from 18 to 24 (fun v6 wx => ∃ b6 : Nat, v6 = .pointer (some ⟨b6, 0, none⟩) ∧ w3.heap.size ≤ b6 ∧ wx.heap[b6]? = some (.cells (Rq5 A n c p i) 143 (0, 0)) ∧ Below w3.heap.size w3 wx)
 case first =>
  refine wp_region_noPanic ?_
  refine wp_region_L (Below w3.heap.size w3) 9 hmx ?_
  have hH0 : (Below w3.heap.size w3) w3.drew := (Below.refl w3.heap.size w3).drew
  generalize w3.drew = u0 at *
  refine tU 0 11 hH0 rfl ?_ (by intro wS hS; have c1 := iCells0 (HSK.out _ hS).r1; go_simp; (try with_reducible rfl))
  refine tkV 1 11 (.agg (Rq0 p)) rfl (by exact yieldsIf_load_mid (by rfl) 53 (.tmp 3) rfl (w.heap.size + 1) 0 rfl (Rq0 p) _ (fun X hX => range_of (HSK.out X hX).r2 0 (Rq0 p) rfl) underlying53 rfl (by kernel_rfl)) hH0 ?_
  simp only [Act.put, pu]
  refine tU 2 11 hH0 rfl ?_ (by intro wS hS; have c1 := iCells0 (HSK.out _ hS).r1; go_simp; (try with_reducible rfl))
  refine tU 3 11 hH0 rfl ?_
  refine tU 4 11 hH0 rfl ?_ (by intro wS hS; have k1 := (jC15 (HSK.out _ hS).r2).2.1; go_simp; (try with_reducible rfl))
  refine wpAnyL_duo (i := 5) (j := 7) (by decide +kernel) (by rfl) (by rfl) (fun K hK => ?_) (fun K hK => ?_)
  ·rw [if_pos (by rfl)]
   go_simp
   refine (Code.find_of l A n c HL.out hn p.id u0 (HSK.out _ hH0).its (i : Int) HK0.out).mono ?_
   rintro e u1 ⟨rfl, hx1⟩
   have hH1 := hH0.trans (hx1.mono hH0.size)
   refine hK.out _ _ (Or.inr hH1) ?_
   clear hK K hx1
   try simp only [Act.put, pu]
   refine tU 6 11 hH1 rfl ?_
   refine oY 7 fun K hK => ?_
   go_simp
   have hx2 := nwB u1 (.cells Rq15 143)
   have hr2 := heap_alloc_new u1 (.cells Rq15 143)
   have hg2 : w3.heap.size ≤ u1.heap.size := hH1.size
   have hH2 := hH1.trans (hx2.mono hH1.size)
   refine hK.out _ _ (Or.inr hH2) ?_
   clear hK K hx2
   try simp only [Act.put, pu]
   generalize u1.alloc (.cells Rq15 143) = u2 at *
   generalize u1.heap.size = g2 at *
   refine oY 8 fun K hK => ?_
   have hst := store_part (ty := 143) u2 g2 0 Rq15 (.agg (Rq5 A n c p i)) (Rq5 A n c p i) hr2 infoCh17 (Nat.le_refl _) (one_change A n c p (i : Int)) rfl
   go_simp
   clear hst
   have hr3 := setRow_heap u2 g2 _ (Rq5 A n c p i) _ _ hr2
   have hH3 := below_setRow hH2 hg2 (g := g2) (Rq5 A n c p i)
   refine hK.out _ _ (Or.inr hH3) ?_
   clear hK K
   try simp only [Act.put, pu]
   refine dnY ?_
   go_wp2_with fail
   go_meet
   case rel => exact ⟨g2, rfl, hg2, hr3, hH3⟩
  ·rw [if_pos (by rfl)]
   go_simp
   have hx2 := nwB u0 (.cells Rq15 143)
   have hr1 := heap_alloc_new u0 (.cells Rq15 143)
   have hg2 : w3.heap.size ≤ u0.heap.size := hH0.size
   have hH1 := hH0.trans (hx2.mono hH0.size)
   refine hK.out _ _ (Or.inr hH1) ?_
   clear hK K hx2
   try simp only [Act.put, pu]
   generalize u0.alloc (.cells Rq15 143) = u1 at *
   generalize u0.heap.size = g2 at *
   refine oY 5 fun K hK => ?_
   go_simp
   refine (Code.find_of l A n c HL.out hn p.id u1 (HSK.out _ hH1).its (i : Int) HK0.out).mono ?_
   rintro e u2 ⟨rfl, hx1⟩
   have hH2 := hH1.trans (hx1.mono hH1.size)
   have hr2 := iNext hr1 hx1
   refine hK.out _ _ (Or.inr hH2) ?_
   clear hK K hx1
   try simp only [Act.put, pu]
   refine tU 6 11 hH2 rfl ?_
   refine oY 8 fun K hK => ?_
   have hst := store_part (ty := 143) u2 g2 0 Rq15 (.agg (Rq5 A n c p i)) (Rq5 A n c p i) hr2 infoCh17 (Nat.le_refl _) (one_change A n c p (i : Int)) rfl
   go_simp
   clear hst
   have hr3 := setRow_heap u2 g2 _ (Rq5 A n c p i) _ _ hr2
   have hH3 := below_setRow hH2 hg2 (g := g2) (Rq5 A n c p i)
   refine hK.out _ _ (Or.inr hH3) ?_
   clear hK K
   try simp only [Act.put, pu]
   refine dnY ?_
   go_wp2_with fail
   go_meet
   case rel => exact ⟨g2, rfl, hg2, hr3, hH3⟩
 case rest =>
  obtain ⟨b6, rfl, hb6, r6, hbw⟩ := hcut
  rename World => wq
  have hS4 := HSK.out _ hbw
  have hb4 := bnext hb3 hbw
  clear hbw HSK hS3 hb3
  have hst := store_new (ty := 146) (T := 146) wq #[.nilFunc, .nilFunc, .nilFunc, .nilFunc, .nilFunc, .nilFunc, .nilFunc, .nilFunc] Rq16 (by kernel_rfl) rfl (by decide +kernel)
  have hb6q := lt_of_block r6
  go_upto_region 5 with (fail)
  clear hst
  have hbn := nwB wq (.cells Rq16 146)
  have r7 := heap_alloc_new wq (.cells Rq16 146)
  have hS5 := hS4.below hbn
  have r65 := iNext r6 hbn
  have hb5 := bnext hb4 hbn
  clear hbn hS4 r6 hb4
  obtain ⟨b7, hb7⟩ : ∃ b7, b7 = wq.heap.size := ⟨_, rfl⟩
  rw [← hb7] at r7 hb6q ⊢
  have HB7 := hide hb7
  clear hb7
  generalize wq.alloc (.cells Rq16 146) = w5 at *
  clear HB7
  have c0 := (jC15 hS5.r2).1
  have k1 := (jC15 hS5.r2).2.1
  have hL6 := hide (range_of r65 0 (Rq5 A n c p i) rfl)
  go_wp2_with (with_reducible refine wpList_load_mid rfl 143 (.tmp 6) rfl b6 0 rfl _ _ hL6.out underlying143 rfl (by kernel_rfl) ?_)
  refine (item_of l A n c HL.out hn p (i : Int) p.id w5 hS5.its y HY.out).mono ?_
  rintro e w6 ⟨rfl, hbq⟩
  clear hL6 k1 c0
  have hS6 := hS5.below hbq
  have r66 := iNext r65 hbq
  have r76 := iNext r7 hbq
  have hb6' := bnext hb5 hbq
  clear hbq hS5 r65 r7 hb5
  have hst := store_new (ty := 51) (T := 51) w6 Rq1 (Rq4 y) (by kernel_rfl) rfl (all_oneCell_toArray (iLay.one y))
  go_upto_region 7 with (fail)
  clear hst
  have hbn := nwB w6 (.cells (Rq4 y) 51)
  have r8 := heap_alloc_new w6 (.cells (Rq4 y) 51)
  have hS7 := hS6.below hbn
  have r67 := iNext r66 hbn
  have r77 := iNext r76 hbn
  have hb7' := bnext hb6' hbn
  clear hbn hS6 r66 r76 hb6'
  obtain ⟨b8, hb8⟩ : ∃ b8, b8 = w6.heap.size := ⟨_, rfl⟩
  rw [← hb8] at r8 ⊢
  have HB8 := hide hb8
  clear hb8
  generalize w6.alloc (.cells (Rq4 y) 51) = w7 at *
  clear HB8
  have c0 := (jC15 hS7.r2).1
  obtain ⟨z0, z1, z2, z3, z4, z5, z6⟩ := iCells r8
  clear z1 z2 z3 z4 z5
  have yg := YG.out
  clear YG
  go_upto_region 14 with (fail)
  clear z0 z6 r8
  clear c0
  have HSK2 := hide (fun X (hX : Below w7.heap.size w7 X) => hS7.below hX)
  have HR6 := hide (fun X (hX : Below w7.heap.size w7 X) => iNext r67 hX)
  have HR7 := hide (fun X (hX : Below w7.heap.size w7 X) => iNext r77 hX)
  have hsz5 := lt_of_block hS7.r3
  refine wp_region_noPanic ?_
  refine wp_region_L (Below w7.heap.size w7) 8 hmx ?_
  have hH0 : (Below w7.heap.size w7) w7.drew := (Below.refl w7.heap.size w7).drew
  generalize w7.drew = u0 at *
  refine tU 0 12 hH0 rfl ?_
  refine tU 1 12 hH0 rfl ?_ (by intro wS hS; have c0 := (jC15 (HSK2.out _ hS).r2).1; go_simp; (try with_reducible rfl))
  refine tU 2 12 hH0 rfl ?_ (by intro wS hS; have hk := HK.out; go_simp; (try with_reducible rfl))
  refine tU 3 12 hH0 rfl ?_ (by intro wS hS; have cf := cell_of_row _ _ 6 _ _ (0, 0) (HR7.out _ hS); go_simp; (try with_reducible rfl))
  refine tkV 4 12 (.agg (Rq5 A n c p i)) rfl (by exact yieldsIf_load_mid (by rfl) 143 (.tmp 6) rfl b6 0 rfl (Rq5 A n c p i) _ (fun X hX => range_of (HR6.out X hX) 0 (Rq5 A n c p i) rfl) underlying143 rfl (by kernel_rfl)) hH0 ?_
  simp only [Act.put, pu]
  refine oY 5 fun K hK => ?_
  go_simp
  refine (gone_of l A n c HL.out hn p i hil y HYI.out false (by rw [HK.out]; rfl) u0 (HSK2.out _ hH0).its).mono ?_
  rintro e u1 ⟨v', rfl, hO, hx1⟩
  have hH1 := hH0.trans (hx1.mono hH0.size)
  have hszu := hH0.size
  refine hK.out _ _ (Or.inr hH1) ?_
  clear hK K hx1
  try simp only [Act.put, pu]
  refine tU 6 12 hH1 rfl ?_
  refine tU 7 12 hH1 rfl ?_
  refine oY 8 fun K hK => ?_
  obtain ⟨A', c', hv', _, _⟩ := hO.row
  obtain ⟨m', hm'⟩ : ∃ m', (l.set i { y with gone := false }, 0).1.length = m' := ⟨_, rfl⟩
  rw [hm'] at hv'
  clear hm'
  subst hv'
  have hst := store_part (ty := 24) u1 (w.heap.size + 1 + 1) 0 Rq3 (.agg #[.slice A' m' c']) #[.slice A' m' c'] (HSK2.out _ hH1).r3 infoCode1 (Nat.le_refl _) (one_code _ _ _) rfl
  have r25 := setRow_heap u1 (w.heap.size + 1 + 1) _ #[.slice A' m' c'] _ _ (HSK2.out _ hH1).r3
  have hb8 := below_setRow (bnext hb7' hH1) (by omega) (g := w.heap.size + 1 + 1) #[.slice A' m' c']
  have HO2 := hide (own_other hO (g := w.heap.size + 1 + 1) (fun e => by have := (World.ownsRow.lt hO _ e).1; omega) #[.slice A' m' c'])
  go_simp
  clear hst hO
  refine hK.out _ _ (Or.inl (by rfl)) ?_
  clear hK K hH1
  generalize u1.setRow (w.heap.size + 1 + 1) #[.slice A' m' c'] = u2 at *
  try simp only [Act.put, pu]
  refine oY 9 fun K hK => ?_
  go_simp
  refine hK.out _ _ (Or.inl (by rfl)) ?_
  clear hK K
  try simp only [Act.put, pu]
  refine dnY ?_
  have hsz0 : w.heap.size ≤ u0.heap.size := by have := hH0.size; omega
  go_wp2
  refine bodyPost_ret (results_c8 results34 _ _ (w.heap.size + 1 + 1) 24 #[.slice A' m' c'] (0, 0) _ rfl r25 underlying24 (by kernel_rfl)) rfl ⟨_, rfl, own_weak HO2.out (by omega), hb8⟩
attribute [-go_sem] Instr.storeAt in
theorem apply_move (l : List Dg.It) (b off : Nat) (n c : Nat) (hl : l.length = n) (hn : n ≤ 1048576) (hnc : n ≤ c) (hw : ∀ x ∈ l, ItW x) (p : Dg.Pt) (hp : PtW p) (h2 : p.kind ≠ 2) (hv : Dg.validC l = true) (y : Dg.It) (hy : Dg.itemA l p.id = y) (hf : Dg.formedP p = true) (i : Nat) (hi : Dg.idxI l p.id = some i) (hk : p.kind = 4) (y0 : (y.kind == 0) = false) (yg : y.gone = false)  (w : World) (hI : Its w w.heap.size (some ⟨b, off, none⟩) l) :
  Calls Tryz.prog 34 #[.agg #[.slice (some ⟨b, off, none⟩) n c], .agg (Rq0 p)] w (ApR (Dg.moveP l p i (l.getD i Dg.zeroI)) w) := by
 obtain ⟨r1, r2, r3, hb1, hs⟩ := iAlloc3 w (.cells #[.slice (some ⟨b, off, none⟩) n c] 24) (.cells (Rq0 p) 53) (.cells Rq3 24)
 have hS1 : ApS w.heap.size (some ⟨b, off, none⟩) n c l p (((w.alloc (.cells #[.slice (some ⟨b, off, none⟩) n c] 24)).alloc (.cells (Rq0 p) 53)).alloc (.cells Rq3 24)) := ⟨r1, r2, r3, hI.keep hb1⟩
 have hmx := hmxQ
 have HK := hide hk
 have k1 : (p.kind != 1) = true := by rw [hk]; rfl
 have k3 : (p.kind != 3) = true := by rw [hk]; rfl
 have k4 : (p.kind != 4) = false := by rw [hk]; rfl
 have k6 : (p.kind == 6) = false := by rw [hk]; rfl
 have k6n : (p.kind != 6) = true := by rw [hk]; rfl
 have hil : i < n := by obtain ⟨h, _⟩ := Dg.idxI_some hi; omega
 have hyi : l.getD i Dg.zeroI = y := by rw [← hy]; unfold Dg.itemA; rw [hi]
 have HK0 := hide (findX_idx hi); have HIX := hide hi; have HYI := hide hyi; have HY := hide hy; have YG := hide yg
 clear hk hyi hi hy yg
 have HS := hide hs; have HL := hide hl; have HW := hide hw; have HP := hide hp; have H2 := hide h2; have HV := hide hv
 clear r1 r2 r3 hs hI hl hw hp h2 hv
 have HF := hide hf
 clear hf
 have c1 := iCells0 hS1.r1
 go_enter func34, ntmps34
 go_wp2_with fail
 generalize ((w.alloc (.cells #[.slice (some ⟨b, off, none⟩) n c] 24)).alloc (.cells (Rq0 p) 53)).alloc (.cells Rq3 24) = w1 at *
 refine (Code.valid_of l (some ⟨b, off, none⟩) n c HL.out HW.out hn w1 hS1.its true HV.out).mono ?_
 rintro e w2 ⟨rfl, hbq⟩
 have hS2 := hS1.below hbq
 have hb2 := bnext hb1 hbq
 have hsz : w.heap.size + 3 ≤ w2.heap.size := by have := hbq.size; have := HS.out; omega
 clear hbq hS1 hb1 c1 HS
 have hL2 := hide (range_of hS2.r2 0 (Rq0 p) rfl)
 go_wp2_with (refine wpList_load_midW 53 (.tmp 3) rfl (by rfl) (w.heap.size + 1) 0 rfl _ _ hL2.out underlying53 rfl (by kernel_rfl) ?_)
 clear hL2
 refine (formed_of p HP.out H2.out true HF.out w2).mono ?_
 rintro e w3 ⟨rfl, hbq⟩
 have hS3 := hS2.below hbq
 have hb3 := bnext hb2 hbq
 have hsz3 : w.heap.size + 3 ≤ w3.heap.size := by have := hbq.size; omega
 clear hbq hS2 hb2 hsz
 have HSK := hide (fun X (hX : Below w3.heap.size w3 X) => hS3.below hX)
 go_upto_region 3 with (fail)
 go_cut [6] from 18 to 24 (fun v6 wx => ∃ b6 : Nat, v6 = .pointer (some ⟨b6, 0, none⟩) ∧ w3.heap.size ≤ b6 ∧ wx.heap[b6]? = some (.cells (Rq6 b off n c p i) 143 (0, 0)) ∧ Below w3.heap.size w3 wx)
 case first =>
  refine wp_region_noPanic ?_
  refine wp_region_L (Below w3.heap.size w3) 9 hmx ?_
  have hH0 : (Below w3.heap.size w3) w3.drew := (Below.refl w3.heap.size w3).drew
  generalize w3.drew = u0 at *
  refine tU 0 11 hH0 rfl ?_ (by intro wS hS; have c1 := iCells0 (HSK.out _ hS).r1; go_simp; (try with_reducible rfl))
  refine tkV 1 11 (.agg (Rq0 p)) rfl (by exact yieldsIf_load_mid (by rfl) 53 (.tmp 3) rfl (w.heap.size + 1) 0 rfl (Rq0 p) _ (fun X hX => range_of (HSK.out X hX).r2 0 (Rq0 p) rfl) underlying53 rfl (by kernel_rfl)) hH0 ?_
  simp only [Act.put, pu]
  refine tU 2 11 hH0 rfl ?_ (by intro wS hS; have c1 := iCells0 (HSK.out _ hS).r1; go_simp; (try with_reducible rfl))
  refine tU 3 11 hH0 rfl ?_
  refine tU 4 11 hH0 rfl ?_ (by intro wS hS; have k1 := (jC15 (HSK.out _ hS).r2).2.1; go_simp; (try with_reducible rfl))
  refine wpAnyL_duo (i := 5) (j := 7) (by decide +kernel) (by rfl) (by rfl) (fun K hK => ?_) (fun K hK => ?_)
  ·rw [if_pos (by rfl)]
   go_simp
   refine (Code.find_of l (some ⟨b, off, none⟩) n c HL.out hn p.id u0 (HSK.out _ hH0).its (i : Int) HK0.out).mono ?_
   rintro e u1 ⟨rfl, hx1⟩
   have hH1 := hH0.trans (hx1.mono hH0.size)
   refine hK.out _ _ (Or.inr hH1) ?_
   clear hK K hx1
   try simp only [Act.put, pu]
   refine tU 6 11 hH1 rfl ?_
   refine oY 7 fun K hK => ?_
   go_simp
   have hx2 := nwB u1 (.cells Rq15 143)
   have hr2 := heap_alloc_new u1 (.cells Rq15 143)
   have hg2 : w3.heap.size ≤ u1.heap.size := hH1.size
   have hH2 := hH1.trans (hx2.mono hH1.size)
   refine hK.out _ _ (Or.inr hH2) ?_
   clear hK K hx2
   try simp only [Act.put, pu]
   generalize u1.alloc (.cells Rq15 143) = u2 at *
   generalize u1.heap.size = g2 at *
   refine oY 8 fun K hK => ?_
   have hst := store_part (ty := 143) u2 g2 0 Rq15 (.agg (Rq6 b off n c p i)) (Rq6 b off n c p i) hr2 infoCh17 (Nat.le_refl _) (one_change (some ⟨b, off, none⟩) n c p (i : Int)) rfl
   go_simp
   clear hst
   have hr3 := setRow_heap u2 g2 _ (Rq6 b off n c p i) _ _ hr2
   have hH3 := below_setRow hH2 hg2 (g := g2) (Rq6 b off n c p i)
   refine hK.out _ _ (Or.inr hH3) ?_
   clear hK K
   try simp only [Act.put, pu]
   refine dnY ?_
   go_wp2_with fail
   go_meet
   case rel => exact ⟨g2, rfl, hg2, hr3, hH3⟩
  ·rw [if_pos (by rfl)]
   go_simp
   have hx2 := nwB u0 (.cells Rq15 143)
   have hr1 := heap_alloc_new u0 (.cells Rq15 143)
   have hg2 : w3.heap.size ≤ u0.heap.size := hH0.size
   have hH1 := hH0.trans (hx2.mono hH0.size)
   refine hK.out _ _ (Or.inr hH1) ?_
   clear hK K hx2
   try simp only [Act.put, pu]
   generalize u0.alloc (.cells Rq15 143) = u1 at *
   generalize u0.heap.size = g2 at *
   refine oY 5 fun K hK => ?_
   go_simp
   refine (Code.find_of l (some ⟨b, off, none⟩) n c HL.out hn p.id u1 (HSK.out _ hH1).its (i : Int) HK0.out).mono ?_
   rintro e u2 ⟨rfl, hx1⟩
   have hH2 := hH1.trans (hx1.mono hH1.size)
   have hr2 := iNext hr1 hx1
   refine hK.out _ _ (Or.inr hH2) ?_
   clear hK K hx1
   try simp only [Act.put, pu]
   refine tU 6 11 hH2 rfl ?_
   refine oY 8 fun K hK => ?_
   have hst := store_part (ty := 143) u2 g2 0 Rq15 (.agg (Rq6 b off n c p i)) (Rq6 b off n c p i) hr2 infoCh17 (Nat.le_refl _) (one_change (some ⟨b, off, none⟩) n c p (i : Int)) rfl
   go_simp
   clear hst
   have hr3 := setRow_heap u2 g2 _ (Rq6 b off n c p i) _ _ hr2
   have hH3 := below_setRow hH2 hg2 (g := g2) (Rq6 b off n c p i)
   refine hK.out _ _ (Or.inr hH3) ?_
   clear hK K
   try simp only [Act.put, pu]
   refine dnY ?_
   go_wp2_with fail
   go_meet
   case rel => exact ⟨g2, rfl, hg2, hr3, hH3⟩
 case rest =>
  obtain ⟨b6, rfl, hb6, r6, hbw⟩ := hcut
  rename World => wq
  have hS4 := HSK.out _ hbw
  have hb4 := bnext hb3 hbw
  clear hbw HSK hS3 hb3
  have hst := store_new (ty := 146) (T := 146) wq #[.nilFunc, .nilFunc, .nilFunc, .nilFunc, .nilFunc, .nilFunc, .nilFunc, .nilFunc] Rq16 (by kernel_rfl) rfl (by decide +kernel)
  have hb6q := lt_of_block r6
  go_upto_region 5 with (fail)
  clear hst
  have hbn := nwB wq (.cells Rq16 146)
  have r7 := heap_alloc_new wq (.cells Rq16 146)
  have hS5 := hS4.below hbn
  have r65 := iNext r6 hbn
  have hb5 := bnext hb4 hbn
  clear hbn hS4 r6 hb4
  obtain ⟨b7, hb7⟩ : ∃ b7, b7 = wq.heap.size := ⟨_, rfl⟩
  rw [← hb7] at r7 hb6q ⊢
  have HB7 := hide hb7
  clear hb7
  generalize wq.alloc (.cells Rq16 146) = w5 at *
  clear HB7
  have c0 := (jC15 hS5.r2).1
  have k1 := (jC15 hS5.r2).2.1
  have hL6 := hide (range_of r65 0 (Rq6 b off n c p i) rfl)
  go_wp2_with (with_reducible refine wpList_load_mid rfl 143 (.tmp 6) rfl b6 0 rfl _ _ hL6.out underlying143 rfl (by kernel_rfl) ?_)
  refine (item_of l (some ⟨b, off, none⟩) n c HL.out hn p (i : Int) p.id w5 hS5.its y HY.out).mono ?_
  rintro e w6 ⟨rfl, hbq⟩
  clear hL6 k1 c0
  have hS6 := hS5.below hbq
  have r66 := iNext r65 hbq
  have r76 := iNext r7 hbq
  have hb6' := bnext hb5 hbq
  clear hbq hS5 r65 r7 hb5
  have hst := store_new (ty := 51) (T := 51) w6 Rq1 (Rq4 y) (by kernel_rfl) rfl (all_oneCell_toArray (iLay.one y))
  go_upto_region 7 with (fail)
  clear hst
  have hbn := nwB w6 (.cells (Rq4 y) 51)
  have r8 := heap_alloc_new w6 (.cells (Rq4 y) 51)
  have hS7 := hS6.below hbn
  have r67 := iNext r66 hbn
  have r77 := iNext r76 hbn
  have hb7' := bnext hb6' hbn
  clear hbn hS6 r66 r76 hb6'
  obtain ⟨b8, hb8⟩ : ∃ b8, b8 = w6.heap.size := ⟨_, rfl⟩
  rw [← hb8] at r8 ⊢
  have HB8 := hide hb8
  clear hb8
  generalize w6.alloc (.cells (Rq4 y) 51) = w7 at *
  clear HB8
  have c0 := (jC15 hS7.r2).1
  obtain ⟨z0, z1, z2, z3, z4, z5, z6⟩ := iCells r8
  clear z1 z2 z3 z4 z5
  have yg := YG.out
  clear YG
  cases y1 : (y.kind == 1)
  all_goals
   go_upto_region 14 with (fail)
   clear z0 z6 r8
   clear c0
   have HSK2 := hide (fun X (hX : Below w7.heap.size w7 X) => hS7.below hX)
   have HR6 := hide (fun X (hX : Below w7.heap.size w7 X) => iNext r67 hX)
   have HR7 := hide (fun X (hX : Below w7.heap.size w7 X) => iNext r77 hX)
   have hsz5 := lt_of_block hS7.r3
   refine wp_region_noPanic ?_
   refine wp_region_L (Below w7.heap.size w7) 8 hmx ?_
   have hH0 : (Below w7.heap.size w7) w7.drew := (Below.refl w7.heap.size w7).drew
   generalize w7.drew = u0 at *
   refine tU 0 12 hH0 rfl ?_
   refine tU 1 12 hH0 rfl ?_ (by intro wS hS; have c0 := (jC15 (HSK2.out _ hS).r2).1; go_simp; (try with_reducible rfl))
   refine tU 2 12 hH0 rfl ?_ (by intro wS hS; have hk := HK.out; go_simp; (try with_reducible rfl))
   refine tU 3 12 hH0 rfl ?_ (by intro wS hS; have cf := cell_of_row _ _ 4 _ _ (0, 0) (HR7.out _ hS); go_simp; (try with_reducible rfl))
   refine tkV 4 12 (.agg (Rq6 b off n c p i)) rfl (by exact yieldsIf_load_mid (by rfl) 143 (.tmp 6) rfl b6 0 rfl (Rq6 b off n c p i) _ (fun X hX => range_of (HR6.out X hX) 0 (Rq6 b off n c p i) rfl) underlying143 rfl (by kernel_rfl)) hH0 ?_
   simp only [Act.put, pu]
   refine oY 5 fun K hK => ?_
   go_simp
   refine (move_of l b off n c HL.out hn p i HIX.out hnc HW.out HV.out u0 (HSK2.out _ hH0).its).mono ?_
   rintro e u1 ⟨v', rfl, hO, hx1⟩
   have hH1 := hH0.trans (hx1.mono hH0.size)
   have hszu := hH0.size
   refine hK.out _ _ (Or.inr hH1) ?_
   clear hK K hx1
   try simp only [Act.put, pu]
   refine tU 6 12 hH1 rfl ?_
   refine tU 7 12 hH1 rfl ?_
   refine oY 8 fun K hK => ?_
   obtain ⟨A', c', hv', _, _⟩ := hO.row
   obtain ⟨m', hm'⟩ : ∃ m', (Dg.moveP l p i (l.getD i Dg.zeroI)).1.length = m' := ⟨_, rfl⟩
   rw [hm'] at hv'
   clear hm'
   subst hv'
   have hst := store_part (ty := 24) u1 (w.heap.size + 1 + 1) 0 Rq3 (.agg #[.slice A' m' c']) #[.slice A' m' c'] (HSK2.out _ hH1).r3 infoCode1 (Nat.le_refl _) (one_code _ _ _) rfl
   have r25 := setRow_heap u1 (w.heap.size + 1 + 1) _ #[.slice A' m' c'] _ _ (HSK2.out _ hH1).r3
   have hb8 := below_setRow (bnext hb7' hH1) (by omega) (g := w.heap.size + 1 + 1) #[.slice A' m' c']
   have HO2 := hide (own_other hO (g := w.heap.size + 1 + 1) (fun e => by have := (World.ownsRow.lt hO _ e).1; omega) #[.slice A' m' c'])
   go_simp
   clear hst hO
   refine hK.out _ _ (Or.inl (by rfl)) ?_
   clear hK K hH1
   generalize u1.setRow (w.heap.size + 1 + 1) #[.slice A' m' c'] = u2 at *
   try simp only [Act.put, pu]
   refine oY 9 fun K hK => ?_
   go_simp
   refine hK.out _ _ (Or.inl (by rfl)) ?_
   clear hK K
   try simp only [Act.put, pu]
   refine dnY ?_
   have hsz0 : w.heap.size ≤ u0.heap.size := by have := hH0.size; omega
   go_wp2
   refine bodyPost_ret (results_c8 results34 _ _ (w.heap.size + 1 + 1) 24 #[.slice A' m' c'] (0, 0) _ rfl r25 underlying24 (by kernel_rfl)) rfl ⟨_, rfl, own_weak HO2.out (by omega), hb8⟩
attribute [-go_sem] Instr.storeAt in
theorem apply_replace (l : List Dg.It) (A : Option Addr) (n c : Nat) (hl : l.length = n) (hn : n ≤ 1048576) (hw : ∀ x ∈ l, ItW x) (p : Dg.Pt) (hp : PtW p) (h2 : p.kind ≠ 2) (hv : Dg.validC l = true) (y : Dg.It) (hy : Dg.itemA l p.id = y) (hf : Dg.formedP p = true) (i : Nat) (hi : Dg.idxI l p.id = some i) (hk : p.kind = 7) (y0 : (y.kind == 0) = false) (y1 : (y.kind == 1) = false) (yg : y.gone = false) (hN : ¬ (400 : Int) < (p.item.north.size : Int)) (hS : ¬ (400 : Int) < (p.item.south.size : Int))  (w : World) (hI : Its w w.heap.size A l) :
  Calls Tryz.prog 34 #[.agg #[.slice A n c], .agg (Rq0 p)] w (ApR (l.set i { y with north := p.item.north, south := p.item.south }, 0) w) := by
 obtain ⟨r1, r2, r3, hb1, hs⟩ := iAlloc3 w (.cells #[.slice A n c] 24) (.cells (Rq0 p) 53) (.cells Rq3 24)
 have hS1 : ApS w.heap.size A n c l p (((w.alloc (.cells #[.slice A n c] 24)).alloc (.cells (Rq0 p) 53)).alloc (.cells Rq3 24)) := ⟨r1, r2, r3, hI.keep hb1⟩
 have hmx := hmxQ
 have HK := hide hk
 have k1 : (p.kind != 1) = true := by rw [hk]; rfl
 have k6 : (p.kind == 6) = false := by rw [hk]; rfl
 have k6n : (p.kind != 6) = true := by rw [hk]; rfl
 have hil : i < n := by obtain ⟨h, _⟩ := Dg.idxI_some hi; omega
 have hyi : l.getD i Dg.zeroI = y := by rw [← hy]; unfold Dg.itemA; rw [hi]
 have HK0 := hide (findX_idx hi); have HIX := hide hi; have HYI := hide hyi; have HY := hide hy; have YG := hide yg
 clear hk hyi hi hy yg
 have HS := hide hs; have HL := hide hl; have HW := hide hw; have HP := hide hp; have H2 := hide h2; have HV := hide hv
 clear r1 r2 r3 hs hI hl hw hp h2 hv
 have HF := hide hf
 clear hf
 have c1 := iCells0 hS1.r1
 go_enter func34, ntmps34
 go_wp2_with fail
 generalize ((w.alloc (.cells #[.slice A n c] 24)).alloc (.cells (Rq0 p) 53)).alloc (.cells Rq3 24) = w1 at *
 refine (Code.valid_of l A n c HL.out HW.out hn w1 hS1.its true HV.out).mono ?_
 rintro e w2 ⟨rfl, hbq⟩
 have hS2 := hS1.below hbq
 have hb2 := bnext hb1 hbq
 have hsz : w.heap.size + 3 ≤ w2.heap.size := by have := hbq.size; have := HS.out; omega
 clear hbq hS1 hb1 c1 HS
 have hL2 := hide (range_of hS2.r2 0 (Rq0 p) rfl)
 go_wp2_with (refine wpList_load_midW 53 (.tmp 3) rfl (by rfl) (w.heap.size + 1) 0 rfl _ _ hL2.out underlying53 rfl (by kernel_rfl) ?_)
 clear hL2
 refine (formed_of p HP.out H2.out true HF.out w2).mono ?_
 rintro e w3 ⟨rfl, hbq⟩
 have hS3 := hS2.below hbq
 have hb3 := bnext hb2 hbq
 have hsz3 : w.heap.size + 3 ≤ w3.heap.size := by have := hbq.size; omega
 clear hbq hS2 hb2 hsz
 have HSK := hide (fun X (hX : Below w3.heap.size w3 X) => hS3.below hX)
 go_upto_region 3 with (fail)
 go_cut [6] from 18 to 24 (fun v6 wx => ∃ b6 : Nat, v6 = .pointer (some ⟨b6, 0, none⟩) ∧ w3.heap.size ≤ b6 ∧ wx.heap[b6]? = some (.cells (Rq5 A n c p i) 143 (0, 0)) ∧ Below w3.heap.size w3 wx)
 case first =>
  refine wp_region_noPanic ?_
  refine wp_region_L (Below w3.heap.size w3) 9 hmx ?_
  have hH0 : (Below w3.heap.size w3) w3.drew := (Below.refl w3.heap.size w3).drew
  generalize w3.drew = u0 at *
  refine tU 0 11 hH0 rfl ?_ (by intro wS hS; have c1 := iCells0 (HSK.out _ hS).r1; go_simp; (try with_reducible rfl))
  refine tkV 1 11 (.agg (Rq0 p)) rfl (by exact yieldsIf_load_mid (by rfl) 53 (.tmp 3) rfl (w.heap.size + 1) 0 rfl (Rq0 p) _ (fun X hX => range_of (HSK.out X hX).r2 0 (Rq0 p) rfl) underlying53 rfl (by kernel_rfl)) hH0 ?_
  simp only [Act.put, pu]
  refine tU 2 11 hH0 rfl ?_ (by intro wS hS; have c1 := iCells0 (HSK.out _ hS).r1; go_simp; (try with_reducible rfl))
  refine tU 3 11 hH0 rfl ?_
  refine tU 4 11 hH0 rfl ?_ (by intro wS hS; have k1 := (jC15 (HSK.out _ hS).r2).2.1; go_simp; (try with_reducible rfl))
  refine wpAnyL_duo (i := 5) (j := 7) (by decide +kernel) (by rfl) (by rfl) (fun K hK => ?_) (fun K hK => ?_)
  ·rw [if_pos (by rfl)]
   go_simp
   refine (Code.find_of l A n c HL.out hn p.id u0 (HSK.out _ hH0).its (i : Int) HK0.out).mono ?_
   rintro e u1 ⟨rfl, hx1⟩
   have hH1 := hH0.trans (hx1.mono hH0.size)
   refine hK.out _ _ (Or.inr hH1) ?_
   clear hK K hx1
   try simp only [Act.put, pu]
   refine tU 6 11 hH1 rfl ?_
   refine oY 7 fun K hK => ?_
   go_simp
   have hx2 := nwB u1 (.cells Rq15 143)
   have hr2 := heap_alloc_new u1 (.cells Rq15 143)
   have hg2 : w3.heap.size ≤ u1.heap.size := hH1.size
   have hH2 := hH1.trans (hx2.mono hH1.size)
   refine hK.out _ _ (Or.inr hH2) ?_
   clear hK K hx2
   try simp only [Act.put, pu]
   generalize u1.alloc (.cells Rq15 143) = u2 at *
   generalize u1.heap.size = g2 at *
   refine oY 8 fun K hK => ?_
   have hst := store_part (ty := 143) u2 g2 0 Rq15 (.agg (Rq5 A n c p i)) (Rq5 A n c p i) hr2 infoCh17 (Nat.le_refl _) (one_change A n c p (i : Int)) rfl
   go_simp
   clear hst
   have hr3 := setRow_heap u2 g2 _ (Rq5 A n c p i) _ _ hr2
   have hH3 := below_setRow hH2 hg2 (g := g2) (Rq5 A n c p i)
   refine hK.out _ _ (Or.inr hH3) ?_
   clear hK K
   try simp only [Act.put, pu]
   refine dnY ?_
   go_wp2_with fail
   go_meet
   case rel => exact ⟨g2, rfl, hg2, hr3, hH3⟩
  ·rw [if_pos (by rfl)]
   go_simp
   have hx2 := nwB u0 (.cells Rq15 143)
   have hr1 := heap_alloc_new u0 (.cells Rq15 143)
   have hg2 : w3.heap.size ≤ u0.heap.size := hH0.size
   have hH1 := hH0.trans (hx2.mono hH0.size)
   refine hK.out _ _ (Or.inr hH1) ?_
   clear hK K hx2
   try simp only [Act.put, pu]
   generalize u0.alloc (.cells Rq15 143) = u1 at *
   generalize u0.heap.size = g2 at *
   refine oY 5 fun K hK => ?_
   go_simp
   refine (Code.find_of l A n c HL.out hn p.id u1 (HSK.out _ hH1).its (i : Int) HK0.out).mono ?_
   rintro e u2 ⟨rfl, hx1⟩
   have hH2 := hH1.trans (hx1.mono hH1.size)
   have hr2 := iNext hr1 hx1
   refine hK.out _ _ (Or.inr hH2) ?_
   clear hK K hx1
   try simp only [Act.put, pu]
   refine tU 6 11 hH2 rfl ?_
   refine oY 8 fun K hK => ?_
   have hst := store_part (ty := 143) u2 g2 0 Rq15 (.agg (Rq5 A n c p i)) (Rq5 A n c p i) hr2 infoCh17 (Nat.le_refl _) (one_change A n c p (i : Int)) rfl
   go_simp
   clear hst
   have hr3 := setRow_heap u2 g2 _ (Rq5 A n c p i) _ _ hr2
   have hH3 := below_setRow hH2 hg2 (g := g2) (Rq5 A n c p i)
   refine hK.out _ _ (Or.inr hH3) ?_
   clear hK K
   try simp only [Act.put, pu]
   refine dnY ?_
   go_wp2_with fail
   go_meet
   case rel => exact ⟨g2, rfl, hg2, hr3, hH3⟩
 case rest =>
  obtain ⟨b6, rfl, hb6, r6, hbw⟩ := hcut
  rename World => wq
  have hS4 := HSK.out _ hbw
  have hb4 := bnext hb3 hbw
  clear hbw HSK hS3 hb3
  have hst := store_new (ty := 146) (T := 146) wq #[.nilFunc, .nilFunc, .nilFunc, .nilFunc, .nilFunc, .nilFunc, .nilFunc, .nilFunc] Rq16 (by kernel_rfl) rfl (by decide +kernel)
  have hb6q := lt_of_block r6
  go_upto_region 5 with (fail)
  clear hst
  have hbn := nwB wq (.cells Rq16 146)
  have r7 := heap_alloc_new wq (.cells Rq16 146)
  have hS5 := hS4.below hbn
  have r65 := iNext r6 hbn
  have hb5 := bnext hb4 hbn
  clear hbn hS4 r6 hb4
  obtain ⟨b7, hb7⟩ : ∃ b7, b7 = wq.heap.size := ⟨_, rfl⟩
  rw [← hb7] at r7 hb6q ⊢
  have HB7 := hide hb7
  clear hb7
  generalize wq.alloc (.cells Rq16 146) = w5 at *
  clear HB7
  have c0 := (jC15 hS5.r2).1
  have k1 := (jC15 hS5.r2).2.1
  have hL6 := hide (range_of r65 0 (Rq5 A n c p i) rfl)
  go_wp2_with (with_reducible refine wpList_load_mid rfl 143 (.tmp 6) rfl b6 0 rfl _ _ hL6.out underlying143 rfl (by kernel_rfl) ?_)
  refine (item_of l A n c HL.out hn p (i : Int) p.id w5 hS5.its y HY.out).mono ?_
  rintro e w6 ⟨rfl, hbq⟩
  clear hL6 k1 c0
  have hS6 := hS5.below hbq
  have r66 := iNext r65 hbq
  have r76 := iNext r7 hbq
  have hb6' := bnext hb5 hbq
  clear hbq hS5 r65 r7 hb5
  have hst := store_new (ty := 51) (T := 51) w6 Rq1 (Rq4 y) (by kernel_rfl) rfl (all_oneCell_toArray (iLay.one y))
  go_upto_region 7 with (fail)
  clear hst
  have hbn := nwB w6 (.cells (Rq4 y) 51)
  have r8 := heap_alloc_new w6 (.cells (Rq4 y) 51)
  have hS7 := hS6.below hbn
  have r67 := iNext r66 hbn
  have r77 := iNext r76 hbn
  have hb7' := bnext hb6' hbn
  clear hbn hS6 r66 r76 hb6'
  obtain ⟨b8, hb8⟩ : ∃ b8, b8 = w6.heap.size := ⟨_, rfl⟩
  rw [← hb8] at r8 ⊢
  have HB8 := hide hb8
  clear hb8
  generalize w6.alloc (.cells (Rq4 y) 51) = w7 at *
  clear HB8
  have c0 := (jC15 hS7.r2).1
  obtain ⟨z0, z1, z2, z3, z4, z5, z6⟩ := iCells r8
  clear z1 z2 z3 z4 z5
  have yg := YG.out
  clear YG
  go_upto_region 14 with (fail)
  clear z0 z6 r8
  clear c0
  have HSK2 := hide (fun X (hX : Below w7.heap.size w7 X) => hS7.below hX)
  have HR6 := hide (fun X (hX : Below w7.heap.size w7 X) => iNext r67 hX)
  have HR7 := hide (fun X (hX : Below w7.heap.size w7 X) => iNext r77 hX)
  have hsz5 := lt_of_block hS7.r3
  refine wp_region_noPanic ?_
  refine wp_region_L (Below w7.heap.size w7) 8 hmx ?_
  have hH0 : (Below w7.heap.size w7) w7.drew := (Below.refl w7.heap.size w7).drew
  generalize w7.drew = u0 at *
  refine tU 0 12 hH0 rfl ?_
  refine tU 1 12 hH0 rfl ?_ (by intro wS hS; have c0 := (jC15 (HSK2.out _ hS).r2).1; go_simp; (try with_reducible rfl))
  refine tU 2 12 hH0 rfl ?_ (by intro wS hS; have hk := HK.out; go_simp; (try with_reducible rfl))
  refine tU 3 12 hH0 rfl ?_ (by intro wS hS; have cf := cell_of_row _ _ 7 _ _ (0, 0) (HR7.out _ hS); go_simp; (try with_reducible rfl))
  refine tkV 4 12 (.agg (Rq5 A n c p i)) rfl (by exact yieldsIf_load_mid (by rfl) 143 (.tmp 6) rfl b6 0 rfl (Rq5 A n c p i) _ (fun X hX => range_of (HR6.out X hX) 0 (Rq5 A n c p i) rfl) underlying143 rfl (by kernel_rfl)) hH0 ?_
  simp only [Act.put, pu]
  refine oY 5 fun K hK => ?_
  go_simp
  refine (replace_of l A n c HL.out hn p i hil y HYI.out (by omega) (by omega) u0 (HSK2.out _ hH0).its).mono ?_
  rintro e u1 ⟨v', rfl, hO, hx1⟩
  have hH1 := hH0.trans (hx1.mono hH0.size)
  have hszu := hH0.size
  refine hK.out _ _ (Or.inr hH1) ?_
  clear hK K hx1
  try simp only [Act.put, pu]
  refine tU 6 12 hH1 rfl ?_
  refine tU 7 12 hH1 rfl ?_
  refine oY 8 fun K hK => ?_
  obtain ⟨A', c', hv', _, _⟩ := hO.row
  obtain ⟨m', hm'⟩ : ∃ m', (l.set i { y with north := p.item.north, south := p.item.south }, 0).1.length = m' := ⟨_, rfl⟩
  rw [hm'] at hv'
  clear hm'
  subst hv'
  have hst := store_part (ty := 24) u1 (w.heap.size + 1 + 1) 0 Rq3 (.agg #[.slice A' m' c']) #[.slice A' m' c'] (HSK2.out _ hH1).r3 infoCode1 (Nat.le_refl _) (one_code _ _ _) rfl
  have r25 := setRow_heap u1 (w.heap.size + 1 + 1) _ #[.slice A' m' c'] _ _ (HSK2.out _ hH1).r3
  have hb8 := below_setRow (bnext hb7' hH1) (by omega) (g := w.heap.size + 1 + 1) #[.slice A' m' c']
  have HO2 := hide (own_other hO (g := w.heap.size + 1 + 1) (fun e => by have := (World.ownsRow.lt hO _ e).1; omega) #[.slice A' m' c'])
  go_simp
  clear hst hO
  refine hK.out _ _ (Or.inl (by rfl)) ?_
  clear hK K hH1
  generalize u1.setRow (w.heap.size + 1 + 1) #[.slice A' m' c'] = u2 at *
  try simp only [Act.put, pu]
  refine oY 9 fun K hK => ?_
  go_simp
  refine hK.out _ _ (Or.inl (by rfl)) ?_
  clear hK K
  try simp only [Act.put, pu]
  refine dnY ?_
  have hsz0 : w.heap.size ≤ u0.heap.size := by have := hH0.size; omega
  go_wp2
  refine bodyPost_ret (results_c8 results34 _ _ (w.heap.size + 1 + 1) 24 #[.slice A' m' c'] (0, 0) _ rfl r25 underlying24 (by kernel_rfl)) rfl ⟨_, rfl, own_weak HO2.out (by omega), hb8⟩
attribute [-go_sem] Instr.storeAt in
theorem apply_replace_n (l : List Dg.It) (A : Option Addr) (n c : Nat) (hl : l.length = n) (hn : n ≤ 1048576) (hw : ∀ x ∈ l, ItW x) (p : Dg.Pt) (hp : PtW p) (h2 : p.kind ≠ 2) (hv : Dg.validC l = true) (y : Dg.It) (hy : Dg.itemA l p.id = y) (hf : Dg.formedP p = true) (i : Nat) (hi : Dg.idxI l p.id = some i) (hk : p.kind = 7) (y0 : (y.kind == 0) = false) (y1 : (y.kind == 1) = false) (yg : y.gone = false) (hN : (400 : Int) < (p.item.north.size : Int))  (w : World) (hI : Its w w.heap.size A l) :
  Calls Tryz.prog 34 #[.agg #[.slice A n c], .agg (Rq0 p)] w (ApR (([] : List Dg.It), (2 : Int)) w) := by
 obtain ⟨r1, r2, r3, hb1, hs⟩ := iAlloc3 w (.cells #[.slice A n c] 24) (.cells (Rq0 p) 53) (.cells Rq3 24)
 have hS1 : ApS w.heap.size A n c l p (((w.alloc (.cells #[.slice A n c] 24)).alloc (.cells (Rq0 p) 53)).alloc (.cells Rq3 24)) := ⟨r1, r2, r3, hI.keep hb1⟩
 have hmx := hmxQ
 have HK := hide hk
 have k1 : (p.kind != 1) = true := by rw [hk]; rfl
 have k6 : (p.kind == 6) = false := by rw [hk]; rfl
 have k6n : (p.kind != 6) = true := by rw [hk]; rfl
 have hil : i < n := by obtain ⟨h, _⟩ := Dg.idxI_some hi; omega
 have hyi : l.getD i Dg.zeroI = y := by rw [← hy]; unfold Dg.itemA; rw [hi]
 have HK0 := hide (findX_idx hi); have HIX := hide hi; have HYI := hide hyi; have HY := hide hy; have YG := hide yg
 clear hk hyi hi hy yg
 have HS := hide hs; have HL := hide hl; have HW := hide hw; have HP := hide hp; have H2 := hide h2; have HV := hide hv
 clear r1 r2 r3 hs hI hl hw hp h2 hv
 have HF := hide hf
 clear hf
 have c1 := iCells0 hS1.r1
 go_enter func34, ntmps34
 go_wp2_with fail
 generalize ((w.alloc (.cells #[.slice A n c] 24)).alloc (.cells (Rq0 p) 53)).alloc (.cells Rq3 24) = w1 at *
 refine (Code.valid_of l A n c HL.out HW.out hn w1 hS1.its true HV.out).mono ?_
 rintro e w2 ⟨rfl, hbq⟩
 have hS2 := hS1.below hbq
 have hb2 := bnext hb1 hbq
 have hsz : w.heap.size + 3 ≤ w2.heap.size := by have := hbq.size; have := HS.out; omega
 clear hbq hS1 hb1 c1 HS
 have hL2 := hide (range_of hS2.r2 0 (Rq0 p) rfl)
 go_wp2_with (refine wpList_load_midW 53 (.tmp 3) rfl (by rfl) (w.heap.size + 1) 0 rfl _ _ hL2.out underlying53 rfl (by kernel_rfl) ?_)
 clear hL2
 refine (formed_of p HP.out H2.out true HF.out w2).mono ?_
 rintro e w3 ⟨rfl, hbq⟩
 have hS3 := hS2.below hbq
 have hb3 := bnext hb2 hbq
 have hsz3 : w.heap.size + 3 ≤ w3.heap.size := by have := hbq.size; omega
 clear hbq hS2 hb2 hsz
 have HSK := hide (fun X (hX : Below w3.heap.size w3 X) => hS3.below hX)
 go_upto_region 3 with (fail)
 go_cut [6] from 18 to 24 (fun v6 wx => ∃ b6 : Nat, v6 = .pointer (some ⟨b6, 0, none⟩) ∧ w3.heap.size ≤ b6 ∧ wx.heap[b6]? = some (.cells (Rq5 A n c p i) 143 (0, 0)) ∧ Below w3.heap.size w3 wx)
 case first =>
  refine wp_region_noPanic ?_
  refine wp_region_L (Below w3.heap.size w3) 9 hmx ?_
  have hH0 : (Below w3.heap.size w3) w3.drew := (Below.refl w3.heap.size w3).drew
  generalize w3.drew = u0 at *
  refine tU 0 11 hH0 rfl ?_ (by intro wS hS; have c1 := iCells0 (HSK.out _ hS).r1; go_simp; (try with_reducible rfl))
  refine tkV 1 11 (.agg (Rq0 p)) rfl (by exact yieldsIf_load_mid (by rfl) 53 (.tmp 3) rfl (w.heap.size + 1) 0 rfl (Rq0 p) _ (fun X hX => range_of (HSK.out X hX).r2 0 (Rq0 p) rfl) underlying53 rfl (by kernel_rfl)) hH0 ?_
  simp only [Act.put, pu]
  refine tU 2 11 hH0 rfl ?_ (by intro wS hS; have c1 := iCells0 (HSK.out _ hS).r1; go_simp; (try with_reducible rfl))
  refine tU 3 11 hH0 rfl ?_
  refine tU 4 11 hH0 rfl ?_ (by intro wS hS; have k1 := (jC15 (HSK.out _ hS).r2).2.1; go_simp; (try with_reducible rfl))
  refine wpAnyL_duo (i := 5) (j := 7) (by decide +kernel) (by rfl) (by rfl) (fun K hK => ?_) (fun K hK => ?_)
  ·rw [if_pos (by rfl)]
   go_simp
   refine (Code.find_of l A n c HL.out hn p.id u0 (HSK.out _ hH0).its (i : Int) HK0.out).mono ?_
   rintro e u1 ⟨rfl, hx1⟩
   have hH1 := hH0.trans (hx1.mono hH0.size)
   refine hK.out _ _ (Or.inr hH1) ?_
   clear hK K hx1
   try simp only [Act.put, pu]
   refine tU 6 11 hH1 rfl ?_
   refine oY 7 fun K hK => ?_
   go_simp
   have hx2 := nwB u1 (.cells Rq15 143)
   have hr2 := heap_alloc_new u1 (.cells Rq15 143)
   have hg2 : w3.heap.size ≤ u1.heap.size := hH1.size
   have hH2 := hH1.trans (hx2.mono hH1.size)
   refine hK.out _ _ (Or.inr hH2) ?_
   clear hK K hx2
   try simp only [Act.put, pu]
   generalize u1.alloc (.cells Rq15 143) = u2 at *
   generalize u1.heap.size = g2 at *
   refine oY 8 fun K hK => ?_
   have hst := store_part (ty := 143) u2 g2 0 Rq15 (.agg (Rq5 A n c p i)) (Rq5 A n c p i) hr2 infoCh17 (Nat.le_refl _) (one_change A n c p (i : Int)) rfl
   go_simp
   clear hst
   have hr3 := setRow_heap u2 g2 _ (Rq5 A n c p i) _ _ hr2
   have hH3 := below_setRow hH2 hg2 (g := g2) (Rq5 A n c p i)
   refine hK.out _ _ (Or.inr hH3) ?_
   clear hK K
   try simp only [Act.put, pu]
   refine dnY ?_
   go_wp2_with fail
   go_meet
   case rel => exact ⟨g2, rfl, hg2, hr3, hH3⟩
  ·rw [if_pos (by rfl)]
   go_simp
   have hx2 := nwB u0 (.cells Rq15 143)
   have hr1 := heap_alloc_new u0 (.cells Rq15 143)
   have hg2 : w3.heap.size ≤ u0.heap.size := hH0.size
   have hH1 := hH0.trans (hx2.mono hH0.size)
   refine hK.out _ _ (Or.inr hH1) ?_
   clear hK K hx2
   try simp only [Act.put, pu]
   generalize u0.alloc (.cells Rq15 143) = u1 at *
   generalize u0.heap.size = g2 at *
   refine oY 5 fun K hK => ?_
   go_simp
   refine (Code.find_of l A n c HL.out hn p.id u1 (HSK.out _ hH1).its (i : Int) HK0.out).mono ?_
   rintro e u2 ⟨rfl, hx1⟩
   have hH2 := hH1.trans (hx1.mono hH1.size)
   have hr2 := iNext hr1 hx1
   refine hK.out _ _ (Or.inr hH2) ?_
   clear hK K hx1
   try simp only [Act.put, pu]
   refine tU 6 11 hH2 rfl ?_
   refine oY 8 fun K hK => ?_
   have hst := store_part (ty := 143) u2 g2 0 Rq15 (.agg (Rq5 A n c p i)) (Rq5 A n c p i) hr2 infoCh17 (Nat.le_refl _) (one_change A n c p (i : Int)) rfl
   go_simp
   clear hst
   have hr3 := setRow_heap u2 g2 _ (Rq5 A n c p i) _ _ hr2
   have hH3 := below_setRow hH2 hg2 (g := g2) (Rq5 A n c p i)
   refine hK.out _ _ (Or.inr hH3) ?_
   clear hK K
   try simp only [Act.put, pu]
   refine dnY ?_
   go_wp2_with fail
   go_meet
   case rel => exact ⟨g2, rfl, hg2, hr3, hH3⟩
 case rest =>
  obtain ⟨b6, rfl, hb6, r6, hbw⟩ := hcut
  rename World => wq
  have hS4 := HSK.out _ hbw
  have hb4 := bnext hb3 hbw
  clear hbw HSK hS3 hb3
  have hst := store_new (ty := 146) (T := 146) wq #[.nilFunc, .nilFunc, .nilFunc, .nilFunc, .nilFunc, .nilFunc, .nilFunc, .nilFunc] Rq16 (by kernel_rfl) rfl (by decide +kernel)
  have hb6q := lt_of_block r6
  go_upto_region 5 with (fail)
  clear hst
  have hbn := nwB wq (.cells Rq16 146)
  have r7 := heap_alloc_new wq (.cells Rq16 146)
  have hS5 := hS4.below hbn
  have r65 := iNext r6 hbn
  have hb5 := bnext hb4 hbn
  clear hbn hS4 r6 hb4
  obtain ⟨b7, hb7⟩ : ∃ b7, b7 = wq.heap.size := ⟨_, rfl⟩
  rw [← hb7] at r7 hb6q ⊢
  have HB7 := hide hb7
  clear hb7
  generalize wq.alloc (.cells Rq16 146) = w5 at *
  clear HB7
  have c0 := (jC15 hS5.r2).1
  have k1 := (jC15 hS5.r2).2.1
  have hL6 := hide (range_of r65 0 (Rq5 A n c p i) rfl)
  go_wp2_with (with_reducible refine wpList_load_mid rfl 143 (.tmp 6) rfl b6 0 rfl _ _ hL6.out underlying143 rfl (by kernel_rfl) ?_)
  refine (item_of l A n c HL.out hn p (i : Int) p.id w5 hS5.its y HY.out).mono ?_
  rintro e w6 ⟨rfl, hbq⟩
  clear hL6 k1 c0
  have hS6 := hS5.below hbq
  have r66 := iNext r65 hbq
  have r76 := iNext r7 hbq
  have hb6' := bnext hb5 hbq
  clear hbq hS5 r65 r7 hb5
  have hst := store_new (ty := 51) (T := 51) w6 Rq1 (Rq4 y) (by kernel_rfl) rfl (all_oneCell_toArray (iLay.one y))
  go_upto_region 7 with (fail)
  clear hst
  have hbn := nwB w6 (.cells (Rq4 y) 51)
  have r8 := heap_alloc_new w6 (.cells (Rq4 y) 51)
  have hS7 := hS6.below hbn
  have r67 := iNext r66 hbn
  have r77 := iNext r76 hbn
  have hb7' := bnext hb6' hbn
  clear hbn hS6 r66 r76 hb6'
  obtain ⟨b8, hb8⟩ : ∃ b8, b8 = w6.heap.size := ⟨_, rfl⟩
  rw [← hb8] at r8 ⊢
  have HB8 := hide hb8
  clear hb8
  generalize w6.alloc (.cells (Rq4 y) 51) = w7 at *
  clear HB8
  have c0 := (jC15 hS7.r2).1
  obtain ⟨z0, z1, z2, z3, z4, z5, z6⟩ := iCells r8
  clear z1 z2 z3 z4 z5
  have yg := YG.out
  clear YG
  go_upto_region 14 with (fail)
  clear z0 z6 r8
  clear c0
  have HSK2 := hide (fun X (hX : Below w7.heap.size w7 X) => hS7.below hX)
  have HR6 := hide (fun X (hX : Below w7.heap.size w7 X) => iNext r67 hX)
  have HR7 := hide (fun X (hX : Below w7.heap.size w7 X) => iNext r77 hX)
  have hsz5 := lt_of_block hS7.r3
  refine wp_region_noPanic ?_
  refine wp_region_L (Below w7.heap.size w7) 8 hmx ?_
  have hH0 : (Below w7.heap.size w7) w7.drew := (Below.refl w7.heap.size w7).drew
  generalize w7.drew = u0 at *
  refine tU 0 12 hH0 rfl ?_
  refine tU 1 12 hH0 rfl ?_ (by intro wS hS; have c0 := (jC15 (HSK2.out _ hS).r2).1; go_simp; (try with_reducible rfl))
  refine tU 2 12 hH0 rfl ?_ (by intro wS hS; have hk := HK.out; go_simp; (try with_reducible rfl))
  refine tU 3 12 hH0 rfl ?_ (by intro wS hS; have cf := cell_of_row _ _ 7 _ _ (0, 0) (HR7.out _ hS); go_simp; (try with_reducible rfl))
  refine tkV 4 12 (.agg (Rq5 A n c p i)) rfl (by exact yieldsIf_load_mid (by rfl) 143 (.tmp 6) rfl b6 0 rfl (Rq5 A n c p i) _ (fun X hX => range_of (HR6.out X hX) 0 (Rq5 A n c p i) rfl) underlying143 rfl (by kernel_rfl)) hH0 ?_
  simp only [Act.put, pu]
  refine oY 5 fun K hK => ?_
  go_simp
  refine ((replace_n l A n c HL.out hn p i hil y HYI.out (by omega) u0 (HSK2.out _ hH0).its).mono fun _ _ ⟨he, hb⟩ => ApR.err he hb).mono ?_
  rintro e u1 ⟨v', rfl, hO, hx1⟩
  have hH1 := hH0.trans (hx1.mono hH0.size)
  have hszu := hH0.size
  refine hK.out _ _ (Or.inr hH1) ?_
  clear hK K hx1
  try simp only [Act.put, pu]
  refine tU 6 12 hH1 rfl ?_
  refine tU 7 12 hH1 rfl ?_
  refine oY 8 fun K hK => ?_
  obtain ⟨A', c', hv', _, _⟩ := hO.row
  obtain ⟨m', hm'⟩ : ∃ m', (([] : List Dg.It), (2 : Int)).1.length = m' := ⟨_, rfl⟩
  rw [hm'] at hv'
  clear hm'
  subst hv'
  have hst := store_part (ty := 24) u1 (w.heap.size + 1 + 1) 0 Rq3 (.agg #[.slice A' m' c']) #[.slice A' m' c'] (HSK2.out _ hH1).r3 infoCode1 (Nat.le_refl _) (one_code _ _ _) rfl
  have r25 := setRow_heap u1 (w.heap.size + 1 + 1) _ #[.slice A' m' c'] _ _ (HSK2.out _ hH1).r3
  have hb8 := below_setRow (bnext hb7' hH1) (by omega) (g := w.heap.size + 1 + 1) #[.slice A' m' c']
  have HO2 := hide (own_other hO (g := w.heap.size + 1 + 1) (fun e => by have := (World.ownsRow.lt hO _ e).1; omega) #[.slice A' m' c'])
  go_simp
  clear hst hO
  refine hK.out _ _ (Or.inl (by rfl)) ?_
  clear hK K hH1
  generalize u1.setRow (w.heap.size + 1 + 1) #[.slice A' m' c'] = u2 at *
  try simp only [Act.put, pu]
  refine oY 9 fun K hK => ?_
  go_simp
  refine hK.out _ _ (Or.inl (by rfl)) ?_
  clear hK K
  try simp only [Act.put, pu]
  refine dnY ?_
  have hsz0 : w.heap.size ≤ u0.heap.size := by have := hH0.size; omega
  go_wp2
  refine bodyPost_ret (results_c8 results34 _ _ (w.heap.size + 1 + 1) 24 #[.slice A' m' c'] (0, 0) _ rfl r25 underlying24 (by kernel_rfl)) rfl ⟨_, rfl, own_weak HO2.out (by omega), hb8⟩
attribute [-go_sem] Instr.storeAt in
theorem apply_replace_s (l : List Dg.It) (A : Option Addr) (n c : Nat) (hl : l.length = n) (hn : n ≤ 1048576) (hw : ∀ x ∈ l, ItW x) (p : Dg.Pt) (hp : PtW p) (h2 : p.kind ≠ 2) (hv : Dg.validC l = true) (y : Dg.It) (hy : Dg.itemA l p.id = y) (hf : Dg.formedP p = true) (i : Nat) (hi : Dg.idxI l p.id = some i) (hk : p.kind = 7) (y0 : (y.kind == 0) = false) (y1 : (y.kind == 1) = false) (yg : y.gone = false) (hN : ¬ (400 : Int) < (p.item.north.size : Int)) (hS : (400 : Int) < (p.item.south.size : Int))  (w : World) (hI : Its w w.heap.size A l) :
  Calls Tryz.prog 34 #[.agg #[.slice A n c], .agg (Rq0 p)] w (ApR (([] : List Dg.It), (2 : Int)) w) := by
 obtain ⟨r1, r2, r3, hb1, hs⟩ := iAlloc3 w (.cells #[.slice A n c] 24) (.cells (Rq0 p) 53) (.cells Rq3 24)
 have hS1 : ApS w.heap.size A n c l p (((w.alloc (.cells #[.slice A n c] 24)).alloc (.cells (Rq0 p) 53)).alloc (.cells Rq3 24)) := ⟨r1, r2, r3, hI.keep hb1⟩
 have hmx := hmxQ
 have HK := hide hk
 have k1 : (p.kind != 1) = true := by rw [hk]; rfl
 have k6 : (p.kind == 6) = false := by rw [hk]; rfl
 have k6n : (p.kind != 6) = true := by rw [hk]; rfl
 have hil : i < n := by obtain ⟨h, _⟩ := Dg.idxI_some hi; omega
 have hyi : l.getD i Dg.zeroI = y := by rw [← hy]; unfold Dg.itemA; rw [hi]
 have HK0 := hide (findX_idx hi); have HIX := hide hi; have HYI := hide hyi; have HY := hide hy; have YG := hide yg
 clear hk hyi hi hy yg
 have HS := hide hs; have HL := hide hl; have HW := hide hw; have HP := hide hp; have H2 := hide h2; have HV := hide hv
 clear r1 r2 r3 hs hI hl hw hp h2 hv
 have HF := hide hf
 clear hf
 have c1 := iCells0 hS1.r1
 go_enter func34, ntmps34
 go_wp2_with fail
 generalize ((w.alloc (.cells #[.slice A n c] 24)).alloc (.cells (Rq0 p) 53)).alloc (.cells Rq3 24) = w1 at *
 refine (Code.valid_of l A n c HL.out HW.out hn w1 hS1.its true HV.out).mono ?_
 rintro e w2 ⟨rfl, hbq⟩
 have hS2 := hS1.below hbq
 have hb2 := bnext hb1 hbq
 have hsz : w.heap.size + 3 ≤ w2.heap.size := by have := hbq.size; have := HS.out; omega
 clear hbq hS1 hb1 c1 HS
 have hL2 := hide (range_of hS2.r2 0 (Rq0 p) rfl)
 go_wp2_with (refine wpList_load_midW 53 (.tmp 3) rfl (by rfl) (w.heap.size + 1) 0 rfl _ _ hL2.out underlying53 rfl (by kernel_rfl) ?_)
 clear hL2
 refine (formed_of p HP.out H2.out true HF.out w2).mono ?_
 rintro e w3 ⟨rfl, hbq⟩
 have hS3 := hS2.below hbq
 have hb3 := bnext hb2 hbq
 have hsz3 : w.heap.size + 3 ≤ w3.heap.size := by have := hbq.size; omega
 clear hbq hS2 hb2 hsz
 have HSK := hide (fun X (hX : Below w3.heap.size w3 X) => hS3.below hX)
 go_upto_region 3 with (fail)
 go_cut [6] from 18 to 24 (fun v6 wx => ∃ b6 : Nat, v6 = .pointer (some ⟨b6, 0, none⟩) ∧ w3.heap.size ≤ b6 ∧ wx.heap[b6]? = some (.cells (Rq5 A n c p i) 143 (0, 0)) ∧ Below w3.heap.size w3 wx)
 case first =>
  refine wp_region_noPanic ?_
  refine wp_region_L (Below w3.heap.size w3) 9 hmx ?_
  have hH0 : (Below w3.heap.size w3) w3.drew := (Below.refl w3.heap.size w3).drew
  generalize w3.drew = u0 at *
  refine tU 0 11 hH0 rfl ?_ (by intro wS hS; have c1 := iCells0 (HSK.out _ hS).r1; go_simp; (try with_reducible rfl))
  refine tkV 1 11 (.agg (Rq0 p)) rfl (by exact yieldsIf_load_mid (by rfl) 53 (.tmp 3) rfl (w.heap.size + 1) 0 rfl (Rq0 p) _ (fun X hX => range_of (HSK.out X hX).r2 0 (Rq0 p) rfl) underlying53 rfl (by kernel_rfl)) hH0 ?_
  simp only [Act.put, pu]
  refine tU 2 11 hH0 rfl ?_ (by intro wS hS; have c1 := iCells0 (HSK.out _ hS).r1; go_simp; (try with_reducible rfl))
  refine tU 3 11 hH0 rfl ?_
  refine tU 4 11 hH0 rfl ?_ (by intro wS hS; have k1 := (jC15 (HSK.out _ hS).r2).2.1; go_simp; (try with_reducible rfl))
  refine wpAnyL_duo (i := 5) (j := 7) (by decide +kernel) (by rfl) (by rfl) (fun K hK => ?_) (fun K hK => ?_)
  ·rw [if_pos (by rfl)]
   go_simp
   refine (Code.find_of l A n c HL.out hn p.id u0 (HSK.out _ hH0).its (i : Int) HK0.out).mono ?_
   rintro e u1 ⟨rfl, hx1⟩
   have hH1 := hH0.trans (hx1.mono hH0.size)
   refine hK.out _ _ (Or.inr hH1) ?_
   clear hK K hx1
   try simp only [Act.put, pu]
   refine tU 6 11 hH1 rfl ?_
   refine oY 7 fun K hK => ?_
   go_simp
   have hx2 := nwB u1 (.cells Rq15 143)
   have hr2 := heap_alloc_new u1 (.cells Rq15 143)
   have hg2 : w3.heap.size ≤ u1.heap.size := hH1.size
   have hH2 := hH1.trans (hx2.mono hH1.size)
   refine hK.out _ _ (Or.inr hH2) ?_
   clear hK K hx2
   try simp only [Act.put, pu]
   generalize u1.alloc (.cells Rq15 143) = u2 at *
   generalize u1.heap.size = g2 at *
   refine oY 8 fun K hK => ?_
   have hst := store_part (ty := 143) u2 g2 0 Rq15 (.agg (Rq5 A n c p i)) (Rq5 A n c p i) hr2 infoCh17 (Nat.le_refl _) (one_change A n c p (i : Int)) rfl
   go_simp
   clear hst
   have hr3 := setRow_heap u2 g2 _ (Rq5 A n c p i) _ _ hr2
   have hH3 := below_setRow hH2 hg2 (g := g2) (Rq5 A n c p i)
   refine hK.out _ _ (Or.inr hH3) ?_
   clear hK K
   try simp only [Act.put, pu]
   refine dnY ?_
   go_wp2_with fail
   go_meet
   case rel => exact ⟨g2, rfl, hg2, hr3, hH3⟩
  ·rw [if_pos (by rfl)]
   go_simp
   have hx2 := nwB u0 (.cells Rq15 143)
   have hr1 := heap_alloc_new u0 (.cells Rq15 143)
   have hg2 : w3.heap.size ≤ u0.heap.size := hH0.size
   have hH1 := hH0.trans (hx2.mono hH0.size)
   refine hK.out _ _ (Or.inr hH1) ?_
   clear hK K hx2
   try simp only [Act.put, pu]
   generalize u0.alloc (.cells Rq15 143) = u1 at *
   generalize u0.heap.size = g2 at *
   refine oY 5 fun K hK => ?_
   go_simp
   refine (Code.find_of l A n c HL.out hn p.id u1 (HSK.out _ hH1).its (i : Int) HK0.out).mono ?_
   rintro e u2 ⟨rfl, hx1⟩
   have hH2 := hH1.trans (hx1.mono hH1.size)
   have hr2 := iNext hr1 hx1
   refine hK.out _ _ (Or.inr hH2) ?_
   clear hK K hx1
   try simp only [Act.put, pu]
   refine tU 6 11 hH2 rfl ?_
   refine oY 8 fun K hK => ?_
   have hst := store_part (ty := 143) u2 g2 0 Rq15 (.agg (Rq5 A n c p i)) (Rq5 A n c p i) hr2 infoCh17 (Nat.le_refl _) (one_change A n c p (i : Int)) rfl
   go_simp
   clear hst
   have hr3 := setRow_heap u2 g2 _ (Rq5 A n c p i) _ _ hr2
   have hH3 := below_setRow hH2 hg2 (g := g2) (Rq5 A n c p i)
   refine hK.out _ _ (Or.inr hH3) ?_
   clear hK K
   try simp only [Act.put, pu]
   refine dnY ?_
   go_wp2_with fail
   go_meet
   case rel => exact ⟨g2, rfl, hg2, hr3, hH3⟩
 case rest =>
  obtain ⟨b6, rfl, hb6, r6, hbw⟩ := hcut
  rename World => wq
  have hS4 := HSK.out _ hbw
  have hb4 := bnext hb3 hbw
  clear hbw HSK hS3 hb3
  have hst := store_new (ty := 146) (T := 146) wq #[.nilFunc, .nilFunc, .nilFunc, .nilFunc, .nilFunc, .nilFunc, .nilFunc, .nilFunc] Rq16 (by kernel_rfl) rfl (by decide +kernel)
  have hb6q := lt_of_block r6
  go_upto_region 5 with (fail)
  clear hst
  have hbn := nwB wq (.cells Rq16 146)
  have r7 := heap_alloc_new wq (.cells Rq16 146)
  have hS5 := hS4.below hbn
  have r65 := iNext r6 hbn
  have hb5 := bnext hb4 hbn
  clear hbn hS4 r6 hb4
  obtain ⟨b7, hb7⟩ : ∃ b7, b7 = wq.heap.size := ⟨_, rfl⟩
  rw [← hb7] at r7 hb6q ⊢
  have HB7 := hide hb7
  clear hb7
  generalize wq.alloc (.cells Rq16 146) = w5 at *
  clear HB7
  have c0 := (jC15 hS5.r2).1
  have k1 := (jC15 hS5.r2).2.1
  have hL6 := hide (range_of r65 0 (Rq5 A n c p i) rfl)
  go_wp2_with (with_reducible refine wpList_load_mid rfl 143 (.tmp 6) rfl b6 0 rfl _ _ hL6.out underlying143 rfl (by kernel_rfl) ?_)
  refine (item_of l A n c HL.out hn p (i : Int) p.id w5 hS5.its y HY.out).mono ?_
  rintro e w6 ⟨rfl, hbq⟩
  clear hL6 k1 c0
  have hS6 := hS5.below hbq
  have r66 := iNext r65 hbq
  have r76 := iNext r7 hbq
  have hb6' := bnext hb5 hbq
  clear hbq hS5 r65 r7 hb5
  have hst := store_new (ty := 51) (T := 51) w6 Rq1 (Rq4 y) (by kernel_rfl) rfl (all_oneCell_toArray (iLay.one y))
  go_upto_region 7 with (fail)
  clear hst
  have hbn := nwB w6 (.cells (Rq4 y) 51)
  have r8 := heap_alloc_new w6 (.cells (Rq4 y) 51)
  have hS7 := hS6.below hbn
  have r67 := iNext r66 hbn
  have r77 := iNext r76 hbn
  have hb7' := bnext hb6' hbn
  clear hbn hS6 r66 r76 hb6'
  obtain ⟨b8, hb8⟩ : ∃ b8, b8 = w6.heap.size := ⟨_, rfl⟩
  rw [← hb8] at r8 ⊢
  have HB8 := hide hb8
  clear hb8
  generalize w6.alloc (.cells (Rq4 y) 51) = w7 at *
  clear HB8
  have c0 := (jC15 hS7.r2).1
  obtain ⟨z0, z1, z2, z3, z4, z5, z6⟩ := iCells r8
  clear z1 z2 z3 z4 z5
  have yg := YG.out
  clear YG
  go_upto_region 14 with (fail)
  clear z0 z6 r8
  clear c0
  have HSK2 := hide (fun X (hX : Below w7.heap.size w7 X) => hS7.below hX)
  have HR6 := hide (fun X (hX : Below w7.heap.size w7 X) => iNext r67 hX)
  have HR7 := hide (fun X (hX : Below w7.heap.size w7 X) => iNext r77 hX)
  have hsz5 := lt_of_block hS7.r3
  refine wp_region_noPanic ?_
  refine wp_region_L (Below w7.heap.size w7) 8 hmx ?_
  have hH0 : (Below w7.heap.size w7) w7.drew := (Below.refl w7.heap.size w7).drew
  generalize w7.drew = u0 at *
  refine tU 0 12 hH0 rfl ?_
  refine tU 1 12 hH0 rfl ?_ (by intro wS hS; have c0 := (jC15 (HSK2.out _ hS).r2).1; go_simp; (try with_reducible rfl))
  refine tU 2 12 hH0 rfl ?_ (by intro wS hS; have hk := HK.out; go_simp; (try with_reducible rfl))
  refine tU 3 12 hH0 rfl ?_ (by intro wS hS; have cf := cell_of_row _ _ 7 _ _ (0, 0) (HR7.out _ hS); go_simp; (try with_reducible rfl))
  refine tkV 4 12 (.agg (Rq5 A n c p i)) rfl (by exact yieldsIf_load_mid (by rfl) 143 (.tmp 6) rfl b6 0 rfl (Rq5 A n c p i) _ (fun X hX => range_of (HR6.out X hX) 0 (Rq5 A n c p i) rfl) underlying143 rfl (by kernel_rfl)) hH0 ?_
  simp only [Act.put, pu]
  refine oY 5 fun K hK => ?_
  go_simp
  refine ((replace_s l A n c HL.out hn p i hil y HYI.out (by omega) (by omega) u0 (HSK2.out _ hH0).its).mono fun _ _ ⟨he, hb⟩ => ApR.err he hb).mono ?_
  rintro e u1 ⟨v', rfl, hO, hx1⟩
  have hH1 := hH0.trans (hx1.mono hH0.size)
  have hszu := hH0.size
  refine hK.out _ _ (Or.inr hH1) ?_
  clear hK K hx1
  try simp only [Act.put, pu]
  refine tU 6 12 hH1 rfl ?_
  refine tU 7 12 hH1 rfl ?_
  refine oY 8 fun K hK => ?_
  obtain ⟨A', c', hv', _, _⟩ := hO.row
  obtain ⟨m', hm'⟩ : ∃ m', (([] : List Dg.It), (2 : Int)).1.length = m' := ⟨_, rfl⟩
  rw [hm'] at hv'
  clear hm'
  subst hv'
  have hst := store_part (ty := 24) u1 (w.heap.size + 1 + 1) 0 Rq3 (.agg #[.slice A' m' c']) #[.slice A' m' c'] (HSK2.out _ hH1).r3 infoCode1 (Nat.le_refl _) (one_code _ _ _) rfl
  have r25 := setRow_heap u1 (w.heap.size + 1 + 1) _ #[.slice A' m' c'] _ _ (HSK2.out _ hH1).r3
  have hb8 := below_setRow (bnext hb7' hH1) (by omega) (g := w.heap.size + 1 + 1) #[.slice A' m' c']
  have HO2 := hide (own_other hO (g := w.heap.size + 1 + 1) (fun e => by have := (World.ownsRow.lt hO _ e).1; omega) #[.slice A' m' c'])
  go_simp
  clear hst hO
  refine hK.out _ _ (Or.inl (by rfl)) ?_
  clear hK K hH1
  generalize u1.setRow (w.heap.size + 1 + 1) #[.slice A' m' c'] = u2 at *
  try simp only [Act.put, pu]
  refine oY 9 fun K hK => ?_
  go_simp
  refine hK.out _ _ (Or.inl (by rfl)) ?_
  clear hK K
  try simp only [Act.put, pu]
  refine dnY ?_
  have hsz0 : w.heap.size ≤ u0.heap.size := by have := hH0.size; omega
  go_wp2
  refine bodyPost_ret (results_c8 results34 _ _ (w.heap.size + 1 + 1) 24 #[.slice A' m' c'] (0, 0) _ rfl r25 underlying24 (by kernel_rfl)) rfl ⟨_, rfl, own_weak HO2.out (by omega), hb8⟩
theorem apply_of (l : List Dg.It) (A : Option Addr) (n c : Nat) (hl : l.length = n) (hn : n ≤ 1048576) (hnc : n ≤ c) (hw : ∀ x ∈ l, ItW x) (p : Dg.Pt) (hp : PtW p) (h2 : p.kind ≠ 2) (w : World) (hI : Its w w.heap.size A l) :
  Calls Tryz.prog 34 #[.agg #[.slice A n c], .agg (Rq0 p)] w (ApR (Dg.applyP l p) w) := by
 have bt (a b : Int) (h : a = b) : (a == b) = true := beq_iff_eq.2 h
 have bf (a b : Int) (h : a ≠ b) : (a == b) = false := beq_eq_false_iff_ne.2 h
 have nt (a b : Int) (h : a ≠ b) : (a != b) = true := by rw [bne, bf a b h]; rfl
 have nf (a b : Int) (h : a = b) : (a != b) = false := by rw [bne, bt a b h]; rfl
 unfold Dg.applyP
 cases hv : Dg.validC l with
 | false =>
  rw [if_pos (Or.inl rfl)]
  exact apply_inv l A n c hl hn hw p hp h2 hv w hI
 | true =>
 cases hf : Dg.formedP p with
 | false =>
  rw [if_pos (Or.inr rfl)]
  exact apply_unf l A n c hl hn hw p hp h2 hv hf w hI
 | true =>
 rw [if_neg (fun h => by rcases h with h | h <;> cases h)]
 by_cases h1 : p.kind = 1
 ·rw [if_pos h1]
  exact apply_ins l A n c hl hn hw p hp h2 hv h1 hf w hI
 rw [if_neg h1]
 cases hi : Dg.idxI l p.id with
 | none =>
  have hy : Dg.itemA l p.id = Dg.zeroI := by unfold Dg.itemA; rw [hi]
  exact apply_none l A n c hl hn hw p hp h2 hv _ hy hf (nt _ _ h1) rfl w hI
 | some i =>
  obtain ⟨hil, hid⟩ := Dg.idxI_some hi
  obtain ⟨y, hyd⟩ : ∃ y, l.getD i Dg.zeroI = y := ⟨_, rfl⟩
  have hy : Dg.itemA l p.id = y := by unfold Dg.itemA; rw [hi]; exact hyd
  have hyl : y ∈ l := by
   rw [← hyd, List.getD_eq_getElem?_getD, List.getElem?_eq_getElem hil, Option.getD_some]
   exact List.getElem_mem hil
  have hpr := Dg.valid_proper hv y hyl
  have y0 : (y.kind == 0) = false := bf _ _ (fun e => by
   rcases Dg.proper_kind hpr with h | h
   ·rw [h.1] at e; cases e
   ·rw [h.1] at e; cases e)
  show Calls Tryz.prog 34 #[.agg #[.slice A n c], .agg (Rq0 p)] w (ApR (if (l.getD i Dg.zeroI).kind = 1 ∧ p.kind ≠ 3 ∧ p.kind ≠ 4 then ([], 11) else _) w)
  rw [hyd]
  by_cases ha : y.kind = 1 ∧ p.kind ≠ 3 ∧ p.kind ≠ 4
  ·rw [if_pos ha]
   exact apply_art l A n c hl hn hw p hp h2 hv y hy hf (nt _ _ h1) y0 (bt _ _ ha.1) (nt _ _ ha.2.1) (nt _ _ ha.2.2) w hI
  rw [if_neg ha]
  by_cases hs : p.kind = 6 ∧ y.gone = false
  ·rw [if_pos hs]
   exact apply_state l A n c hl hn hw p hp h2 hv y hy hf (nt _ _ h1) y0 (bf _ _ (fun e => ha ⟨e, by rw [hs.1]; decide, by rw [hs.1]; decide⟩)) (bt _ _ hs.1) hs.2 w hI
  rw [if_neg hs]
  by_cases hg : p.kind ≠ 6 ∧ y.gone = true
  ·rw [if_pos hg]
   refine apply_gone l A n c hl hn hw p hp h2 hv y hy hf (nt _ _ h1) y0 (bf _ _ fun e => ?_) (bf _ _ hg.1) (nt _ _ hg.1) hg.2 w hI
   have := (Dg.proper_div hpr e).2.2
   rw [hg.2] at this
   cases this
  rw [if_neg hg]
  have yg : p.kind ≠ 6 → y.gone = false := fun h => by
   cases h9 : y.gone with
   | false => rfl
   | true => exact absurd ⟨h, h9⟩ hg
  by_cases h3 : p.kind = 3
  ·rw [if_pos h3]
   exact apply_number l A n c hl hn hw p hp h2 hv y hy hf i hi h3 y0 (yg (by rw [h3]; decide)) w hI
  rw [if_neg h3]
  by_cases h4 : p.kind = 4
  ·rw [if_pos h4, ← hyd]
   obtain ⟨b, off, rfl⟩ := hI.some hil
   exact apply_move l b off n c hl hn hnc hw p hp h2 hv y hy hf i hi h4 y0 (yg (by rw [h4]; decide)) w hI
  rw [if_neg h4]
  have y1 : (y.kind == 1) = false := bf _ _ (fun e => ha ⟨e, h3, h4⟩)
  by_cases h7 : p.kind = 7
  ·rw [if_pos h7]
   have yg7 := yg (by rw [h7]; decide)
   by_cases hN : 400 < p.item.north.size
   ·rw [if_pos (Or.inl hN)]
    exact apply_replace_n l A n c hl hn hw p hp h2 hv y hy hf i hi h7 y0 y1 yg7 (by omega) w hI
   by_cases hS : 400 < p.item.south.size
   ·rw [if_pos (Or.inr hS)]
    exact apply_replace_s l A n c hl hn hw p hp h2 hv y hy hf i hi h7 y0 y1 yg7 (by omega) (by omega) w hI
   rw [if_neg (fun h => h.elim hN hS)]
   exact apply_replace l A n c hl hn hw p hp h2 hv y hy hf i hi h7 y0 y1 yg7 (by omega) (by omega) w hI
  rw [if_neg h7]
  rcases Dg.formed_kind hf with k | k | k | k | k | k
  ·exact absurd k h1
  ·exact absurd k h3
  ·exact absurd k h4
  ·rw [show decide (p.kind = 5) = true from decide_eq_true k]
   exact apply_repeal l A n c hl hn hw p hp h2 hv y hy hf i hi k y0 y1 (yg (by rw [k]; decide)) w hI
  ·rw [show decide (p.kind = 5) = false from decide_eq_false (by rw [k]; decide)]
   refine apply_revive l A n c hl hn hw p hp h2 hv y hy hf i hi k y0 y1 ?_ w hI
   cases h9 : y.gone with
   | true => rfl
   | false => exact absurd ⟨k, h9⟩ hs
  ·exact absurd k h7
theorem valid_itw {l : List Dg.It} (hv : Dg.validC l = true) : ∀ x ∈ l, ItW x := fun x hx => by
 have idz : ∀ z ∈ l, z.id.size ≤ 24 := fun z hz => by
  have h := (Dg.proper_id (Dg.valid_proper hv z hz)).1
  unfold Dg.isNameB at h
  rw [Bool.and_eq_true, decide_eq_true_eq] at h
  exact h.2
 have hpr := Dg.valid_proper hv x hx
 obtain ⟨i, hi, rfl⟩ := List.mem_iff_getElem.1 hx
 have hn := (Dg.proper_id hpr).2
 unfold Dg.isNumB at hn
 rw [Bool.and_eq_true, decide_eq_true_eq] at hn
 have hpz : l[i].parent.size ≤ 24 := by
  rcases Dg.up_at hv hi with h | ⟨j, hj, _, h, _⟩
  ·rw [h]; decide
  ·rw [← h]; exact idz _ (List.getElem_mem hj)
 have hid := idz _ hx
 rcases Dg.proper_kind hpr with ⟨k1, _, k3, k4⟩ | ⟨k1, k3, k4⟩
 ·exact ⟨by rw [k1]; decide, by rw [k1]; decide, by omega, by omega, by omega, by rw [k3]; decide, by rw [k4]; decide⟩
 ·exact ⟨by rw [k1]; decide, by rw [k1]; decide, by omega, by omega, by omega, by omega, by omega⟩
theorem valid_len {l : List Dg.It} (hv : Dg.validC l = true) : l.length ≤ 2000 := by
 unfold Dg.validC at hv
 rw [Bool.and_eq_true, decide_eq_true_eq] at hv
 exact hv.2
theorem results_c9 {fn : Func} {p u v : Tmp} {ty : TypeId} (h : fn.results = #[.cell p ty, .tmp u, .tmp v]) (tmps : Array Value) (w : World) (g : Nat) (t : TypeId) (cs : Array Value) (fr : Nat × Nat) (fs : Array Field)
  (hp : tmps.getD p undef = .pointer (some ⟨g, 0, none⟩)) (hg : w.heap[g]? = some (.cells cs t fr))
  (hu : Tryz.prog.underlying ty = some (.struct fs)) (hi : (Tryz.prog.info? ty).map (·.size) = some cs.size) :
  (results fn tmps).run Tryz.prog w = .ok (.tuple #[.agg cs, tmps.getD u undef, tmps.getD v undef]) w := by
 have hp' : tmps[p]?.getD undef = .pointer (some ⟨g, 0, none⟩) := by simpa using hp
 have hl := run_loadVar_row (P := Tryz.prog) w g t ty cs fr (.struct fs) hg hu rfl hi
 simp [results, h, hp', asAddr, Sem.run_bind, Result.andThen, hl]
theorem its_off {w : World} {B : Nat} {A : Option Addr} {l : List Dg.It} (h : Its w B A l) {g : Nat} (hg : 0 < l.length → ∀ ad, A = some ad → ad.block ≠ g) (cs : Array Value) : Its (w.setRow g cs) B A l :=
 ⟨fun h0 => by
  obtain ⟨b, off, e, hlt, hc⟩ := h.at_ h0
  have hne : b ≠ g := hg h0 _ e
  refine ⟨b, off, e, hlt, fun j x hj i u hu => ?_⟩
  exact (World.cell?_of_block (w := w) (w' := w.setRow g cs) (a := ⟨b, off + j * 7 + i, none⟩) (setRow_other w g b cs hne)).trans (hc j x hj i u hu)⟩
theorem own_where {α : Type} {L : Lay α} {e : TypeId} {w : World} {B : Nat} {A : Option Addr} {n c : Nat} {l : List α} (h : Own1 L e w B (.slice A n c) l) : ∀ ad, A = some ad → B ≤ ad.block ∧ ad.block < w.heap.size := fun ad ha => by
 rcases h.2 with ⟨h1, _⟩ | ⟨g, cap, cur, hv, hB, hg, _⟩
 ·injection h1 with h1 _ _
  rw [ha] at h1; cases h1
 ·injection hv with hv _ _
  rw [ha] at hv
  cases hv
  exact ⟨hB, lt_of_block hg⟩
structure AllS (b1 : Nat) (A : Option Addr) (n c : Nat) (l : List Dg.It) (X : World) : Prop where
 r1 : X.heap[b1]? = some (.cells #[.slice A n c] 24 (0, 0))
 r2 : X.heap[b1 + 1]? = some (.cells Rq3 24 (0, 0))
 its : Its X X.heap.size A l
 ne : 0 < l.length → ∀ ad, A = some ad → ad.block ≠ b1 ∧ ad.block ≠ b1 + 1
 len : l.length = n
 cap : n ≤ c
 val : Dg.validC l = true
theorem AllS.below {b1 : Nat} {A : Option Addr} {n c : Nat} {l : List Dg.It} {X X' : World} (h : AllS b1 A n c l X) (hb : Below X.heap.size X X') : AllS b1 A n c l X' := ⟨iNext h.r1 hb, iNext h.r2 hb, h.its.keep hb, h.ne, h.len, h.cap, h.val⟩
theorem row_range {w : World} {B b off : Nat} {ps : List Dg.Pt} (h : Row1 ptL w B (some ⟨b, off, none⟩) ps) {k : Nat} (hk : k < ps.length) (p : Dg.Pt) (hp : ps[k] = p) : w.rangeAt b (off + k * 15) (Rq0 p) := fun j u hj => by
 obtain ⟨b', off', e, _, hc⟩ := h.get hk
 injection e with e
 injection e with e1 e2 _
 subst e1 e2
 have hj15 : j < 15 := (List.getElem?_eq_some_iff.1 hj).1
 exact hc j u hj15 (by rw [hp]; exact hj)
theorem Row1.someP {w : World} {B : Nat} {A : Option Addr} {ps : List Dg.Pt} (h : Row1 ptL w B A ps) (h0 : 0 < ps.length) : ∃ b off, A = Option.some ⟨b, off, none⟩ := by
 obtain ⟨b, off, e, _⟩ := h.at_ h0
 exact ⟨b, off, e⟩
theorem clC_gone (x : Dg.Cl) (g : Bool) : (clC x).toList.take 19 ++ [Value.bool g] ++ (clC x).toList.drop 20 = (clC { x with gone := g }).toList := rfl
theorem cl_one (x : Dg.Cl) : (clC x).all (·.oneCell') = true := by
 rw [Array.all_eq_true']
 exact fun u hu => clL.one x u (Array.mem_toList_iff.2 hu)
theorem store_gone {w : World} {b : Nat} {x : Dg.Cl} (h : w.heap[b]? = some (.cells (clC x) 55 (0, 0))) (g : Bool) :
  (Instr.storeAt 4 (.pointer (some ⟨b, 19, none⟩)) (.bool g)).run Tryz.prog w = .ok () (w.setRow b (clC { x with gone := g })) :=
 store_part w b 19 (clC x) (.bool g) _ h infoBool1 (Nat.le_refl 20) (one_bool g) (clC_gone x g)
theorem load_cl {w : World} {b : Nat} {x : Dg.Cl} (h : w.heap[b]? = some (.cells (clC x) 55 (0, 0))) : (Instr.loadAt 55 (.pointer (some ⟨b, 0, none⟩))).run Tryz.prog w = .ok (.agg (clC x)) w :=
 run_loadAt_mid w b 0 55 (clC x).toList _ (range_of h 0 _ rfl) underlying55 rfl (by kernel_rfl)
theorem yl_cl {ops : Array Oper} {S : World → Prop} {op : Oper} {a : Act} {b : Nat} {x : Dg.Cl} (y : Operand) (ho : op.op = .load 55 y) (hw : Region.wanted op (yielded ops a.tmps) = true) (hx : a.eval y = .pointer (some ⟨b, 0, none⟩)) (hS : ∀ w, S w → w.heap[b]? = some (.cells (clC x) 55 (0, 0))) : YieldsIf Tryz.prog ops S op (.agg (clC x)) a :=
 yieldsIf_load_mid hw 55 y ho b 0 hx (clC x).toList _ (fun X hX => range_of (hS X hX) 0 _ rfl) underlying55 rfl (by kernel_rfl)
theorem yl_eqcl {ops : Array Oper} {S : World → Prop} {op : Oper} {a : Act} {u v : Dg.Cl} (y z : Operand) (ho : op.op = .binOp .eql 55 y z 55) (hw : Region.wanted op (yielded ops a.tmps) = true) (hx : a.eval y = .agg (clC u)) (hz : a.eval z = .agg (clC v)) (R : Bool) (hR : decide (u = v) = R) : YieldsIf Tryz.prog ops S op (.bool R) a :=
 .inl ⟨hw, fun w _ => by
  subst hR
  unfold execOp
  simp only [ho, hx, hz, Sem.run_bind, Sem.run_pure, Result.andThen_ok, clause_run, run_eqGuard_agg (w := w) .eql 55 y z (clC u) (clC v) (show Tryz.prog.eqGuardType Tryz.prog.depth 55 = false by kernel_rfl)]⟩
theorem store_cl {w : World} {b : Nat} {x y : Dg.Cl} (h : w.heap[b]? = some (.cells (clC x) 55 (0, 0))) : (Instr.storeAt 55 (.pointer (some ⟨b, 0, none⟩)) (.agg (clC y))).run Tryz.prog w = .ok () (w.setRow b (clC y)) := by
 refine store_part w b 0 (clC x) (.agg (clC y)) _ h (by kernel_rfl) (Nat.le_refl 20) (fun u hu => clL.one y u hu) ?_
 show (clC x).toList.take 0 ++ (clC y).toList ++ (clC x).toList.drop 20 = _
 rw [List.take_zero, List.nil_append, List.drop_of_length_le (Nat.le_refl 20), List.append_nil]
attribute [-go_sem] Instr.storeAt in
theorem merge_of (x y : Dg.Cl) (g : Bool) (hg : (x.gone || y.gone) = g) (R : Bool) (hR : decide (({ x with gone := g } : Dg.Cl) = { y with gone := g }) = R) (w : World) :
  Calls Tryz.prog 54 #[.agg (clC x), .agg (clC y)] w fun e w' => e = .returned (.tuple #[.agg (clC { x with gone := g }), .bool R]) ∧ Below w.heap.size w w' := by
 have HR := hide hR
 clear hR
 have hmx := hmxQ
 obtain ⟨r1, r2, r3, hb, hs⟩ := iAlloc3 w (.cells (clC x) 55) (.cells (clC y) 55) (.cells Rq17 55)
 have hn12 : w.heap.size ≠ w.heap.size + 1 := by omega
 have hn13 : w.heap.size ≠ w.heap.size + 1 + 1 := by omega
 have hn23 : w.heap.size + 1 ≠ w.heap.size + 1 + 1 := by omega
 have hB2 : w.heap.size ≤ w.heap.size + 1 := by omega
 have hB3 : w.heap.size ≤ w.heap.size + 1 + 1 := by omega
 go_enter func54, ntmps54
 go_upto_region 1 with (fail)
 generalize ((w.alloc (.cells (clC x) 55)).alloc (.cells (clC y) 55)).alloc (.cells Rq17 55) = w1 at *
 clear hs
 generalize w.heap.size + 1 + 1 = b3 at *
 generalize w.heap.size + 1 = b2 at *
 have c1 : w1.cell? ⟨w.heap.size, 19, none⟩ = some (.bool x.gone) := by rw [cell_of_row _ _ _ _ _ (0, 0) r1]; rfl
 have c2 : w1.cell? ⟨b2, 19, none⟩ = some (.bool y.gone) := by rw [cell_of_row _ _ _ _ _ (0, 0) r2]; rfl
 have hr3 : w1.heap[b3]? = some (.cells (clC Dg.Cl0) 55 (0, 0)) := r3
 have s1 := store_gone r1 g
 have q1 := setRow_heap w1 w.heap.size _ (clC { x with gone := g }) _ _ r1
 have q2 := (setRow_other w1 w.heap.size b2 (clC { x with gone := g }) (Ne.symm hn12)).trans r2
 have q3 := (setRow_other w1 w.heap.size b3 (clC { x with gone := g }) (Ne.symm hn13)).trans hr3
 have k1 := below_setRow hb (Nat.le_refl _) (g := w.heap.size) (clC { x with gone := g })
 have s2 := store_gone q2 g
 have p1 := (setRow_other _ b2 w.heap.size (clC { y with gone := g }) hn12).trans q1
 have p2 := setRow_heap _ b2 _ (clC { y with gone := g }) _ _ q2
 have p3 := (setRow_other _ b2 b3 (clC { y with gone := g }) (Ne.symm hn23)).trans q3
 have k2 := below_setRow k1 hB2 (g := b2) (clC { y with gone := g })
 have hS3 := And.intro p1 (And.intro p2 p3)
 clear q1 q2 q3 k1 p1 p2 p3 r1 r2 r3 hr3 hb
 have HS3 := hide hS3; have HK2 := hide k2
 clear hS3 k2
 go_upto_region 2 with (fail)
 all_goals
  simp only [*, Bool.true_or, Bool.false_or] at hg
 all_goals
  go_upto_region 3 with (fail)
 all_goals
  clear s1 s2 c1 c2
  generalize ((w1.setRow w.heap.size (clC { x with gone := g })).setRow b2 (clC { y with gone := g })) = w2 at *
  refine wp_region_noPanic ?_
  refine wp_region_L (fun X : World => X.heap[w.heap.size]? = some (.cells (clC { x with gone := g }) 55 (0, 0)) ∧ X.heap[b2]? = some (.cells (clC { y with gone := g }) 55 (0, 0))) 6 hmx ?_
  have hH0 : (fun X : World => X.heap[w.heap.size]? = some (.cells (clC { x with gone := g }) 55 (0, 0)) ∧ X.heap[b2]? = some (.cells (clC { y with gone := g }) 55 (0, 0))) w2.drew := ⟨HS3.out.1, HS3.out.2.1⟩
  have hr3 : w2.drew.heap[b3]? = some (.cells (clC Dg.Cl0) 55 (0, 0)) := HS3.out.2.2
  have hB0 := HK2.out.drew
  clear HS3 HK2
  generalize w2.drew = u0 at *
  refine tkV 0 8 (.agg (clC ({ x with gone := g } : Dg.Cl))) rfl (by exact yl_cl (.tmp 2) rfl (by rfl) (by rfl) (fun X hX => hX.1)) hH0 ?_
  simp only [Act.put, pu]
  refine tkV 1 8 (.agg (clC ({ x with gone := g } : Dg.Cl))) rfl (by exact yl_cl (.tmp 2) rfl (by rfl) (by rfl) (fun X hX => hX.1)) hH0 ?_
  simp only [Act.put, pu]
  refine tkV 2 8 (.agg (clC ({ y with gone := g } : Dg.Cl))) rfl (by exact yl_cl (.tmp 3) rfl (by rfl) (by rfl) (fun X hX => hX.2)) hH0 ?_
  simp only [Act.put, pu]
  refine tkV 3 8 (.bool R) rfl (by exact yl_eqcl (.tmp 18) (.tmp 19) rfl (by rfl) (by rfl) (by rfl) R HR.out) hH0 ?_
  simp only [Act.put, pu]
  refine oY 4 fun K hK => ?_
  have f0 := store_cl (y := { x with gone := g }) hr3
  have g3 := setRow_heap u0 b3 _ (clC { x with gone := g }) _ _ hr3
  go_simp
  have hH1 : (fun X : World => X.heap[w.heap.size]? = some (.cells (clC { x with gone := g }) 55 (0, 0)) ∧ X.heap[b2]? = some (.cells (clC { y with gone := g }) 55 (0, 0))) (u0.setRow b3 (clC { x with gone := g })) := ⟨(setRow_other _ b3 _ _ hn13).trans hH0.1, (setRow_other _ b3 _ _ hn23).trans hH0.2⟩
  refine hK.out _ _ (Or.inr hH1) ?_
  clear hK K f0 hH0
  have hb4 := below_setRow hB0 hB3 (g := b3) (clC { x with gone := g })
  generalize u0.setRow b3 (clC { x with gone := g }) = u1 at *
  try simp only [Act.put, pu]
  refine tU 5 8 hH1 rfl ?_
  refine dnY ?_
  clear hH1 hB0
  go_wp2
  refine bodyPost_ret (results_c8 results54 _ _ b3 55 (clC { x with gone := g }) (0, 0) _ rfl g3 underlying55 (by kernel_rfl)) rfl ⟨rfl, hb4⟩
def SpW (s : Dg.Sp) : Prop := 0 ≤ s.seat ∧ s.seat ≤ 1000000 ∧ 0 ≤ s.count ∧ s.count ≤ 1000001
def spV (s : Dg.Sp) : Value := .agg #[.int .i64 s.seat, .int .i64 s.count]
def spK (s : Dg.Sp) : Lit := .string (keyBytes [.int .i64 s.seat, .int .i64 s.count])
theorem wf_i64 {a : Int} (h0 : 0 ≤ a) (h1 : a ≤ 1000001) : (Lit.int .i64 a).wf = true := by
 show (decide ((-9223372036854775808 : Int) ≤ a) && decide (a ≤ (9223372036854775807 : Int))) = true
 rw [Bool.and_eq_true, decide_eq_true_eq, decide_eq_true_eq]
 omega
theorem sp_key {s : Dg.Sp} (h : SpW s) : keyOf Tryz.prog 49 (spV s) = some (spK s) := by
 have h1 := wf_i64 h.1 (by have := h.2.1; omega)
 have h2 := wf_i64 h.2.2.1 h.2.2.2
 have hk : Tryz.prog.keyType 49 = true := by kernel_rfl
 have hf : (spV s).formed Tryz.prog 49 = true := by kernel_rfl
 have hu : Tryz.prog.underlying 49 = some (.struct (Tryz.prog.fieldsOf 49)) := by kernel_rfl
 unfold keyOf
 rw [hu]
 simp only [hk, hf, Bool.and_true, if_true]
 have hl : Tryz.prog.keyLits (Tryz.prog.types.size + 1) 49 (spV s).cells.toList = some [.int .i64 s.seat, .int .i64 s.count] := by
  obtain ⟨m, hm⟩ : ∃ m, Tryz.prog.types.size = m + 1 := ⟨Tryz.prog.types.size - 1, by decide +kernel⟩
  rw [hm]
  have hc : Tryz.prog.cellsOf 49 = 2 := by kernel_rfl
  have hc3 : Tryz.prog.cellsOf 3 = 1 := by kernel_rfl
  have e1 : Tryz.prog.keyLits (m + 1) 3 [.int .i64 s.seat] = some [.int .i64 s.seat] := by
   unfold Program.keyLits
   simp only [underlying3]
   rw [if_pos ⟨trivial, h1⟩]
  have e2 : Tryz.prog.keyLits (m + 1) 3 [.int .i64 s.count] = some [.int .i64 s.count] := by
   unfold Program.keyLits
   simp only [underlying3]
   rw [if_pos ⟨trivial, h2⟩]
  have e3 : (spV s).cells.toList = [.int .i64 s.seat, .int .i64 s.count] := rfl
  rw [e3]
  unfold Program.keyLits
  simp only [underlying49, hc]
  rw [if_pos ⟨rfl, by decide +kernel⟩]
  simp [hc3, e1, e2]
 rw [hl]
 rfl
theorem lawSp : Keyed Tryz.prog 49 := Keyed.of_law (deep_law (m := 2) (by omega) (by kernel_rfl) (by kernel_rfl) (by kernel_rfl))
theorem sp_inj {s t : Dg.Sp} (h : SpW s) (h' : SpW t) (e : spK s = spK t) : s = t := by
 have h1 := sp_key h
 rw [e] at h1
 have h2 := lawSp.inj h1 (sp_key h')
 unfold spV at h2
 injection h2 with h2
 have h3 := congrArg Array.toList h2
 simp only [List.cons.injEq, Value.int.injEq, true_and, and_true] at h3
 cases s; cases t
 simp_all
theorem sp_lit {s : Dg.Sp} (h : SpW s) : WideAt.IsKeyLit (spK s) := lawSp.key (sp_key h)
theorem sp0_w : SpW Dg.Sp0 := by unfold SpW Dg.Sp0; decide
theorem sp_w {s : Dg.Sp} (h : Dg.spOk s = true) : SpW s := by
 unfold Dg.spOk at h
 rw [decide_eq_true_eq] at h
 unfold SpW
 omega
open Classical in
noncomputable def rdBy {α : Type} (V : α → Value) (D : α → DataW Unit) (v : Value) : Option (DataW Unit × List MemPlace) := if h : ∃ c, V c = v then some (D h.choose, []) else none
theorem rdBy_mk {α : Type} {V : α → Value} {D : α → DataW Unit} (hV : ∀ a b, V a = V b → a = b) (c : α) : rdBy V D (V c) = some (D c, []) := by
 have h : ∃ d, V d = V c := ⟨c, rfl⟩
 unfold rdBy
 rw [dif_pos h, hV _ _ h.choose_spec]
theorem rdBy_shape {α : Type} {V : α → Value} {D : α → DataW Unit} {v : Value} {y : DataW Unit × List MemPlace} (h : rdBy V D v = some y) : ∃ c, v = V c ∧ y = (D c, []) := by
 unfold rdBy at h
 split at h
 ·rename_i hx
  injection h with h
  exact ⟨hx.choose, hx.choose_spec.symm, h.symm⟩
 ·cases h
theorem rdBy_inv {α : Type} {V : α → Value} {D : α → DataW Unit} (hD : ∀ a b, D a = D b → a = b) {v : Value} {c : α} {ps : List MemPlace} (h : rdBy V D v = some (D c, ps)) : v = V c := by
 obtain ⟨d, e, e2⟩ := rdBy_shape h
 injection e2 with e2 _
 rw [e, hD _ _ e2]
def litD : Value → DataW Unit
 | .int k n => .lit (.int k n)
 | .string s => .lit (.string s.data.toList)
 | .bool b => .lit (.bool b)
 | _ => .nil
def clV (c : Dg.Cl) : Value := .agg (clC c)
def clD (c : Dg.Cl) : DataW Unit := .agg ((clC c).toList.map litD)
theorem clV_inj (x y : Dg.Cl) (h : clV x = clV y) : x = y := by
 unfold clV at h
 injection h with h
 have h3 := congrArg Array.toList h
 obtain ⟨⟨_, _⟩, ⟨_, _⟩, ⟨_, _, _, _, _, ⟨_, _, _, _, _, _, _⟩, _, _, _⟩, _⟩ := x
 obtain ⟨⟨_, _⟩, ⟨_, _⟩, ⟨_, _, _, _, _, ⟨_, _, _, _, _, _, _⟩, _, _, _⟩, _⟩ := y
 simp only [clC, List.cons.injEq, Value.int.injEq, Value.string.injEq, Value.bool.injEq, true_and, and_true] at h3
 simp_all
theorem bytes_toList {s t : ByteArray} : s.data.toList = t.data.toList ↔ s = t := by
 constructor
 ·intro h
  obtain ⟨⟨a⟩⟩ := s
  obtain ⟨⟨b⟩⟩ := t
  cases h
  rfl
 ·rintro rfl; rfl
theorem clD_inj (x y : Dg.Cl) (h : clD x = clD y) : x = y := by
 unfold clD at h
 injection h with h3
 obtain ⟨⟨_, _⟩, ⟨_, _⟩, ⟨_, _, _, _, _, ⟨_, _, _, _, _, _, _⟩, _, _, _⟩, _⟩ := x
 obtain ⟨⟨_, _⟩, ⟨_, _⟩, ⟨_, _, _, _, _, ⟨_, _, _, _, _, _, _⟩, _, _, _⟩, _⟩ := y
 simp only [clC, List.map_cons, List.map_nil, litD, List.cons.injEq, DataW.lit.injEq, Lit.int.injEq, Lit.string.injEq, Lit.bool.injEq, true_and, and_true, bytes_toList] at h3
 simp_all
noncomputable def rCl : Value → Option (DataW Unit × List MemPlace) := rdBy clV clD
structure PgD (D : DataW Unit) (pg : List Dg.Cl) : Prop where
 tidy : Tidy D
 at_ : ∀ c ∈ pg, ∀ zd, D.atKey (spK c.id) zd = clD c
 has : ∀ s, SpW s → Maps.has D (spK s) = (Dg.getC pg s).isSome
 src : ∀ kl, Maps.has D kl = true → ∃ c ∈ pg, kl = spK c.id
 size : Maps.size D = pg.length
 nd : Dg.NdC pg
 ids : ∀ c ∈ pg, SpW c.id
theorem PgD.nil : PgD (.map []) [] := ⟨tidy_empty, fun c hc => by (cases hc), fun s _ => rfl, fun kl h => by (cases h), rfl, List.nodup_nil, fun c hc => by (cases hc)⟩
theorem PgD.new {D : DataW Unit} {pg : List Dg.Cl} (h : PgD D pg) {c : Dg.Cl} (hc : SpW c.id) (hn : Dg.getC pg c.id = none) : PgD (D.put (spK c.id) (clD c)) (pg ++ [c]) := by
 have hno := Dg.getC_none hn
 have hm := h.tidy.isMap
 have hl := sp_lit hc
 refine ⟨h.tidy.put hl _, fun d hd zd => ?_, fun s hs => ?_, fun kl hk => ?_, ?_, ?_, fun d hd => ?_⟩
 ·rcases List.mem_append.1 hd with hd | hd
  ·rw [atKey_put_other (fun e => hno d hd (sp_inj (h.ids d hd) hc e)), h.at_ d hd]
  ·rw [List.mem_singleton.1 hd, atKey_put_same hm hl]
 ·unfold Dg.getC
  rw [List.find?_append]
  by_cases e : s = c.id
  ·subst e
   rw [has_put_same hm hl]
   have : Dg.getC pg c.id = none := hn
   unfold Dg.getC at this
   rw [this]
   simp
  ·rw [has_put_other (fun e2 => e (sp_inj hs hc e2)), h.has s hs]
   unfold Dg.getC
   have : ([c] : List Dg.Cl).find? (fun x => decide (x.id = s)) = none := by
    simp only [List.find?_cons, List.find?_nil, decide_eq_false (show ¬ c.id = s from fun e2 => e e2.symm)]
   rw [this, Option.or_none]
 ·by_cases e : kl = spK c.id
  ·exact ⟨c, List.mem_append.2 (Or.inr (List.mem_singleton.2 rfl)), e⟩
  ·rw [has_put_other e] at hk
   obtain ⟨d, hd, e2⟩ := h.src kl hk
   exact ⟨d, List.mem_append.2 (Or.inl hd), e2⟩
 ·rw [size_put h.tidy, h.has _ hc, hn, h.size, List.length_append]
  rfl
 ·unfold Dg.NdC
  rw [List.map_append, List.nodup_append]
  refine ⟨h.nd, by simp, fun d hd e he heq => ?_⟩
  obtain ⟨x, hx, rfl⟩ := List.mem_map.1 hd
  obtain rfl : e = c.id := List.mem_singleton.1 he
  exact hno x hx heq
 ·rcases List.mem_append.1 hd with hd | hd
  ·exact h.ids d hd
  ·rw [List.mem_singleton.1 hd]; exact hc
theorem getC_setC (pg : List Dg.Cl) (c : Dg.Cl) (s : Dg.Sp) : (Dg.getC (Dg.setC pg c) s).isSome = (Dg.getC pg s).isSome := by
 unfold Dg.getC Dg.setC
 rw [List.find?_map, Option.isSome_map]
 congr 2
 funext x
 show decide ((if x.id = c.id then c else x).id = s) = decide (x.id = s)
 split
 ·rename_i e; rw [e]
 ·rfl
theorem PgD.set {D : DataW Unit} {pg : List Dg.Cl} (h : PgD D pg) {o c : Dg.Cl} (ho : o ∈ pg) (hid : o.id = c.id) : PgD (D.put (spK c.id) (clD c)) (Dg.setC pg c) := by
 have hm := h.tidy.isMap
 have hc : SpW c.id := hid ▸ h.ids o ho
 have hl := sp_lit hc
 have hin : c ∈ Dg.setC pg c := by
  unfold Dg.setC
  exact List.mem_map.2 ⟨o, ho, if_pos hid⟩
 have hsome : (Dg.getC pg c.id).isSome = true := by
  rw [← hid, Dg.getC_at h.nd ho]
  rfl
 refine ⟨h.tidy.put hl _, fun d hd zd => ?_, fun s hs => ?_, fun kl hk => ?_, ?_, ?_, fun d hd => ?_⟩
 ·rcases Dg.mem_setC hd with rfl | ⟨hd, hne⟩
  ·rw [atKey_put_same hm hl]
  ·rw [atKey_put_other (fun e => hne (sp_inj (h.ids d hd) hc e)), h.at_ d hd]
 ·rw [getC_setC]
  by_cases e : s = c.id
  ·subst e
   rw [has_put_same hm hl, hsome]
  ·rw [has_put_other (fun e2 => e (sp_inj hs hc e2)), h.has s hs]
 ·by_cases e : kl = spK c.id
  ·exact ⟨c, hin, e⟩
  ·rw [has_put_other e] at hk
   obtain ⟨d, hd, e2⟩ := h.src kl hk
   have hne : d.id ≠ c.id := fun e3 => e (by rw [e2, e3])
   exact ⟨d, by unfold Dg.setC; exact List.mem_map.2 ⟨d, hd, if_neg hne⟩, e2⟩
 ·rw [size_put h.tidy, h.has _ hc, hsome, h.size]
  unfold Dg.setC
  rw [List.length_map]
  rfl
 ·unfold Dg.NdC
  rw [Dg.setC_ids]
  exact h.nd
 ·rcases Dg.mem_setC hd with rfl | ⟨hd, _⟩
  ·exact hc
  ·exact h.ids d hd
def MapAt (w : World) (m : Nat) (pg : List Dg.Cl) : Prop := ∃ D, w.ownsMap Tryz.prog 49 rCl m pg.length D ∧ PgD D pg
theorem own_tight {w : World} {k : TypeId} {R : Value → Option (DataW Unit × List MemPlace)} {b n : Nat} {D : DataW Unit} (h : w.ownsMap Tryz.prog k R b n D) : w.ownsMap Tryz.prog k R b (Maps.size D) D := by
 have := h
 obtain ⟨es, clock, hb, F, hs, e⟩ := h
 refine ⟨es, clock, hb, F, ?_, e⟩
 rw [e]
 simp [Maps.size, length_sorted]
theorem MapAt.lt {w : World} {m : Nat} {pg : List Dg.Cl} (h : MapAt w m pg) : m < w.heap.size := by
 obtain ⟨D, h, _⟩ := h
 exact h.lt
theorem MapAt.same {w w' : World} {m : Nat} {pg : List Dg.Cl} (h : MapAt w m pg) (e : w'.heap[m]? = w.heap[m]?) : MapAt w' m pg := by
 obtain ⟨D, ⟨es, clock, hb, h⟩, hD⟩ := h
 exact ⟨D, ⟨es, clock, e.trans hb, h⟩, hD⟩
def RngI (w : World) (m r : Nat) (pg V : List Dg.Cl) : Prop := ∃ D left cnt, w.ranges Tryz.prog 49 rCl m r pg.length D left cnt ∧ PgD D pg ∧ (∀ c ∈ pg, left (spK c.id) = decide (c ∉ V)) ∧ (∀ c ∈ V, c ∈ pg) ∧ V.Nodup
theorem RngI.same {w w' : World} {m r : Nat} {pg V : List Dg.Cl} (h : RngI w m r pg V) (e1 : w'.heap[m]? = w.heap[m]?) (e2 : w'.heap[r]? = w.heap[r]?) : RngI w' m r pg V := by
 obtain ⟨D, left, cnt, ⟨es, clock, since, seen, c0, hb, F, hs, hD, hr, rest⟩, h2⟩ := h
 exact ⟨D, left, cnt, ⟨es, clock, since, seen, c0, e1.trans hb, F, hs, hD, e2.trans hr, rest⟩, h2⟩
theorem rangeLeft_same {w w' : World} {m r : Nat} (e1 : w'.heap[m]? = w.heap[m]?) (e2 : w'.heap[r]? = w.heap[r]?) : w'.rangeLeft m r = w.rangeLeft m r := by
 unfold World.rangeLeft
 rw [e1, e2]
theorem RngI.map {w : World} {m r : Nat} {pg V : List Dg.Cl} (h : RngI w m r pg V) : MapAt w m pg := by
 obtain ⟨D, left, cnt, hr, hD, _⟩ := h
 exact ⟨D, hr.owns, hD⟩
theorem RngI.lt {w : World} {m r : Nat} {pg V : List Dg.Cl} (h : RngI w m r pg V) : r < w.heap.size ∧ r ≠ m := by
 obtain ⟨D, left, cnt, hr, _⟩ := h
 exact ⟨hr.lt, hr.ne⟩
section
variable (w : World) {ops : Array Oper} {rest : List Oper} {o : Oper} {a : Act} {Q : Exit → Act → World → Prop}
theorem range_page (hg : o.guard = none) (x : Operand) (hop : o.op = Op.range 130 x) (m : Nat) (pg : List Dg.Cl) (hm : a.eval x = .map (some m)) (h : MapAt w m pg)
  (hK : ∀ w', RngI w' m w.heap.size pg [] → w.grownBy w' none → w'.heap.size = w.heap.size + 1 → wpList Tryz.prog ops Q rest (a.put o.dst (.pointer (some ⟨w.heap.size, 0, none⟩))) w') :
  wpList Tryz.prog ops Q (o :: rest) a w := by
 obtain ⟨D, hown, hD⟩ := h
 refine wpList_range_own w hg x _ hop _ _ lawSp underlying130 rCl m _ D hm hown fun w' h1 h2 h3 => hK w' ⟨D, _, _, h1, hD, fun c hc => ?_, fun c hc => (by cases hc), List.nodup_nil⟩ h2 h3
 rw [hD.has _ (hD.ids c hc), Dg.getC_at hD.nd hc]
 simp
theorem next_page (hg : o.guard = none) (it : Operand) (hop : o.op = Op.next it false) (m r : Nat) (pg V : List Dg.Cl) (hit : a.eval it = .pointer (some ⟨r, 0, none⟩)) (h : RngI w m r pg V)
  (hDone : V.Perm pg → wpList Tryz.prog ops Q rest (a.put o.dst (.tuple #[.bool false])) w)
  (hMore : ∀ (c : Dg.Cl) (w' : World), c ∈ pg → c ∉ V → RngI w' m r pg (V ++ [c]) → w'.rangeLeft m r < w.rangeLeft m r → w.grownBy w' (some r) → w'.heap.size = w.heap.size →
   (Instr.entry (.pointer (some ⟨r, 0, none⟩))).run Tryz.prog w' = .ok (.tuple #[.agg #[.int .i64 c.id.seat, .int .i64 c.id.count], .agg (clC c)]) w' → wpList Tryz.prog ops Q rest (a.put o.dst (.tuple #[.bool true, .agg #[.int .i64 c.id.seat, .int .i64 c.id.count], .agg (clC c)])) w') :
  wpList Tryz.prog ops Q (o :: rest) a w := by
 obtain ⟨D, left, cnt, hr, hD, hl, hV, hn⟩ := h
 refine wpList_next_ranges w hg it hop _ lawSp rCl (fun v : Value => v) (fun v : Value => v) (fun key kl _ => ⟨key, rfl⟩) (fun v y _ => ⟨v, rfl⟩) m r _ D left cnt hit hr (fun _ h0 => hDone ?_) (fun x v kl y w' cnt' hk hlk hv hat hrg hlt hgr hsz hen => ?_)
 ·refine (List.perm_ext_iff_of_nodup hn hD.nd.nodup).2 fun c => ⟨hV c, fun hc => ?_⟩
  have := hl c hc
  rw [h0] at this
  by_cases e : c ∈ V
  ·exact e
  ·rw [decide_eq_true e] at this
   cases this
 ·obtain ⟨c, hc, rfl⟩ := hD.src kl (has_true_of_atKey hat)
  have hy := hD.at_ c hc .nil
  rw [hat] at hy
  obtain ⟨y1, y2⟩ := y
  obtain rfl : y1 = clD c := hy
  obtain rfl : v = clV c := rdBy_inv clD_inj hv
  obtain rfl : x = spV c.id := lawSp.inj hk (sp_key (hD.ids c hc))
  have hcV : c ∉ V := by
   have := hl c hc
   rw [hlk] at this
   exact of_decide_eq_true this.symm
  refine hMore c w' hc hcV ⟨D, _, _, hrg, hD, fun d hd => ?_, fun d hd => ?_, ?_⟩ (by rw [hrg.left_eq, hr.left_eq]; exact hlt) hgr hsz hen
  ·show (left (spK d.id) && !(spK d.id).sameKey (spK c.id)) = _
   rw [hl d hd]
   by_cases e : d = c
   ·subst e
    rw [WideAt.sameKey_self (sp_lit (hD.ids d hd))]
    simp
   ·rw [sameKey_ne (fun e2 => e (hD.nd.inj hd hc (sp_inj (hD.ids d hd) (hD.ids c hc) e2)))]
    simp [e]
  ·rcases List.mem_append.1 hd with hd | hd
   ·exact hV d hd
   ·rw [List.mem_singleton.1 hd]; exact hc
  ·rw [List.nodup_append]
   refine ⟨hn, by simp, fun d hd e he heq => ?_⟩
   obtain rfl := List.mem_singleton.1 he
   exact hcV (heq ▸ hd)
end
theorem open_snoc (V : List Dg.Cl) (c : Dg.Cl) : Dg.openN (V ++ [c]) = Dg.openN V + (if c.gone = true then 0 else 1) := by
 unfold Dg.openN
 rw [List.countP_append]
 cases h : c.gone <;> simp [h]
theorem open_perm {V pg : List Dg.Cl} (h : V.Perm pg) : Dg.openN V = Dg.openN pg := h.countP_eq _
theorem store_newcl (w : World) (x : Dg.Cl) : (Instr.storeAt 55 (.pointer (some ⟨w.heap.size, 0, none⟩)) (.agg (clC x))).run Tryz.prog (w.alloc (.cells Rq17 55)) = .ok () (w.alloc (.cells (clC x) 55)) :=
 store_new (ty := 55) (T := 55) w Rq17 (clC x) (by kernel_rfl) rfl (cl_one x)
attribute [-go_sem] Instr.storeAt in
theorem open_of (m : Nat) (pg : List Dg.Cl) (hlen : pg.length ≤ 100000) (w : World) (h : MapAt w m pg) :
  Calls Tryz.prog 55 #[.map (some m)] w fun e w' => e = .returned (.int .i64 ((Dg.openN pg : Nat) : Int)) ∧ Below w.heap.size w w' := by
 have hle : Dg.openN pg ≤ pg.length := List.countP_le_length
 have hml := h.lt
 have HM := hide h
 clear h
 go_enter func55, ntmps55
 go_wp2_with (first | (at_range; refine range_page _ rfl _ rfl m pg rfl HM.out ?_; intro w0 hR0 hg0 hs0))
 go_frame
 have hB0 : Below w.heap.size w w0 := grown_belowN hg0
 generalize hr : w.heap.size = r at *
 clear hg0
 go_loopw [3] (fun v3 wr => ∃ V : List Dg.Cl, RngI wr m r pg V ∧ v3 = .int .i64 ((Dg.openN V : Nat) : Int) ∧ Below r w wr) (fun _ wr => wr.rangeLeft m r)
 case atStart => exact ⟨[], hR0, rfl, hB0⟩
 case round =>
  clear hR0 hB0
  obtain ⟨V, hR, rfl, hB⟩ := hrel
  go_wp2_with (at_next; refine next_page _ rfl _ rfl m r pg V rfl hR ?_ ?_)
  ·intro hp
   go_wp2
   go_ret
   exact ⟨by rw [← open_perm hp]; rfl, by rw [← hr] at hB; exact hB⟩
  ·intro c w1 hc hcV hR1 hlt hg1 hs1 hen
   have hst := store_newcl w1 c
   have r1 := heap_alloc_new w1 (.cells (clC c) 55)
   have c19 : (w1.alloc (.cells (clC c) 55)).cell? ⟨w1.heap.size, 19, none⟩ = some (.bool c.gone) := by rw [cell_of_row _ _ _ _ _ (0, 0) r1]; rfl
   have hrl : r < w1.heap.size := hR1.lt.1
   have hml1 : m < w1.heap.size := hR1.map.lt
   have hb1 : Below r w w1 := hB.grown hg1 (by have := hR.lt.1; omega) (fun k hk => by injection hk with hk; omega)
   have hb2 := hb1.alloc (Nat.le_of_lt hrl) (.cells (clC c) 55)
   have e1 : (w1.alloc (.cells (clC c) 55)).heap[m]? = w1.heap[m]? := heap_alloc_old w1 _ hml1
   have e2 : (w1.alloc (.cells (clC c) 55)).heap[r]? = w1.heap[r]? := heap_alloc_old w1 _ hrl
   have hR2 := hR1.same e1 e2
   have hlt2 : (w1.alloc (.cells (clC c) 55)).rangeLeft m r < wr.rangeLeft m r := by rw [rangeLeft_same e1 e2]; exact hlt
   have hbn : Dg.openN V ≤ 100000 := by
    obtain ⟨_, _, _, _, _, _, hV, hn⟩ := hR
    have h1 := Dg.nodup_len2 V pg hn hV
    have h2 : Dg.openN V ≤ V.length := List.countP_le_length
    omega
   have hsn := open_snoc V c
   have HR2 := hide hR2; have HB2 := hide hb2; have HLT := hide hlt2; have HSN := hide hsn
   have HS1 := hide hs1
   clear hs1 hg1
   clear hR2 hb2 hlt2 hsn hR hB hR1 hb1 e1 e2 hlt
   go_wp2_with fail
   all_goals
    refine ⟨⟨V ++ [c], HR2.out, ?_, HB2.out⟩, HLT.out⟩
    have h1 := HSN.out
    rename_i hgn
    cases hcg : c.gone <;> rw [hcg] at hgn h1 <;> simp at hgn h1 <;> rw [h1] <;> simp
theorem look_page {W : World} {m : Nat} {pg : List Dg.Cl} (h : MapAt W m pg) {a b : Int} (hs : SpW ⟨a, b⟩) : (Instr.lookup 130 (.map (some m)) (.agg #[.int .i64 a, .int .i64 b]) true).run Tryz.prog W = .ok (.tuple #[.agg (clC ((Dg.getC pg ⟨a, b⟩).getD Dg.Cl0)), .bool (Dg.getC pg ⟨a, b⟩).isSome]) W := by
 obtain ⟨D, hown, hD⟩ := h
 obtain ⟨v, ps, hrun, hv⟩ := hown.look_ok lawSp underlying130 (z := clV Dg.Cl0) (by kernel_rfl) (zd := clD Dg.Cl0) (zp := []) (rdBy_mk clV_inj _) (sp_key hs)
 rw [hD.has _ hs] at hrun
 have hat : D.atKey (spK ⟨a, b⟩) (clD Dg.Cl0) = clD ((Dg.getC pg ⟨a, b⟩).getD Dg.Cl0) := by
  cases hg : Dg.getC pg ⟨a, b⟩ with
  | none =>
   have := hD.has _ hs
   rw [hg] at this
   exact atKey_of_not_has this _
  | some c =>
   obtain ⟨hc, e⟩ := Dg.getC_some hg
   rw [← e]
   exact hD.at_ c hc _
 rw [hat] at hv
 have e := rdBy_inv clD_inj hv
 rw [e] at hrun
 exact hrun
theorem lay_new {W : World} {m : Nat} {pg : List Dg.Cl} (h : MapAt W m pg) (hl : pg.length ≤ 100000) {c : Dg.Cl} (hc : SpW c.id) (hn : Dg.getC pg c.id = none) : ∃ W', (Instr.mapUpdate 130 (.map (some m)) (.agg #[.int .i64 c.id.seat, .int .i64 c.id.count]) (.agg (clC c))).run Tryz.prog W = .ok () W' ∧ MapAt W' m (pg ++ [c]) ∧ W.grownBy W' (some m) := by
 obtain ⟨D, hown, hD⟩ := h
 obtain ⟨W', h1, h2, h3⟩ := hown.update lawSp underlying130 (by unfold maxLen; omega) (sp_key hc) (rdBy_mk (D := clD) clV_inj c)
 have hD2 := hD.new hc hn
 refine ⟨W', h1, ⟨_, ?_, hD2⟩, h3⟩
 have := own_tight h2
 rw [hD2.size] at this
 exact this
theorem lay_set {W : World} {m : Nat} {pg : List Dg.Cl} (h : MapAt W m pg) (hl : pg.length ≤ 100000) {o c : Dg.Cl} (ho : o ∈ pg) (hid : o.id = c.id) (s : Dg.Sp) (hs : s = c.id) : ∃ W', (Instr.mapUpdate 130 (.map (some m)) (.agg #[.int .i64 s.seat, .int .i64 s.count]) (.agg (clC c))).run Tryz.prog W = .ok () W' ∧ MapAt W' m (Dg.setC pg c) ∧ W.grownBy W' (some m) := by
 subst hs
 obtain ⟨D, hown, hD⟩ := h
 have hc : SpW c.id := hid ▸ hD.ids o ho
 obtain ⟨W', h1, h2, h3⟩ := hown.update lawSp underlying130 (by unfold maxLen; omega) (sp_key hc) (rdBy_mk (D := clD) clV_inj c)
 have hD2 := hD.set ho hid
 refine ⟨W', h1, ⟨_, ?_, hD2⟩, h3⟩
 have := own_tight h2
 rw [hD2.size] at this
 exact this
theorem wl_cl {w : World} {ops : Array Oper} {rest : List Oper} {op : Oper} {a : Act} {Q : Exit → Act → World → Prop} {b : Nat} {x : Dg.Cl} (y : Operand) (ho : op.op = .load 55 y) (hw : Region.wanted op (yielded ops a.tmps) = true) (hx : a.eval y = .pointer (some ⟨b, 0, none⟩)) (hr : w.heap[b]? = some (.cells (clC x) 55 (0, 0))) (h : wpList Tryz.prog ops Q rest (a.put op.dst (.agg (clC x))) w) : wpList Tryz.prog ops Q (op :: rest) a w :=
 wpList_wanted hw fun _ hK => wp_load_mid 55 y ho b 0 hx (clC x).toList _ (range_of hr 0 _ rfl) underlying55 rfl (by kernel_rfl) (hK _ _ h)
structure PageAt (w : World) (p m : Nat) (pg : List Dg.Cl) : Prop where
 row : w.heap[p]? = some (.cells #[.map (some m)] 132 (0, 0))
 map : MapAt w m pg
theorem MapAt.below {w X : World} {m : Nat} {pg : List Dg.Cl} (h : MapAt w m pg) (hb : Below w.heap.size w X) : MapAt X m pg := h.same (hb.block m h.lt)
theorem PageAt.below {w X : World} {p m : Nat} {pg : List Dg.Cl} (h : PageAt w p m pg) (hb : Below w.heap.size w X) : PageAt X p m pg := ⟨iNext h.row hb, h.map.below hb⟩
theorem PageAt.lt {w : World} {p m : Nat} {pg : List Dg.Cl} (h : PageAt w p m pg) : p < w.heap.size := lt_of_block h.row
theorem PageAt.ne {w : World} {p m : Nat} {pg : List Dg.Cl} (h : PageAt w p m pg) : p ≠ m := by
 obtain ⟨D, ⟨es, clock, hb, _⟩, _⟩ := h.map
 intro e
 have := h.row
 rw [e, hb] at this
 cases this
theorem grown_of_below {w X : World} (h : Below w.heap.size w X) (row : Option Nat) : w.grownBy X row := ⟨h.os, h.tape, h.output, h.size, fun i hi _ => h.block i hi⟩
theorem grown_after {w X Y : World} {m : Nat} (h : Below w.heap.size w X) (k : X.grownBy Y (some m)) : w.grownBy Y (some m) := ⟨k.os.trans h.os, k.tape.trans h.tape, k.output.trans h.output, Nat.le_trans h.size k.size, fun i hi hne => (k.block i (Nat.lt_of_lt_of_le hi h.size) hne).trans (h.block i hi)⟩
attribute [-go_sem] Instr.storeAt in
theorem put_bad (p : Nat) (c : Dg.Cl) (hc : Dg.clOk c = false) (w : World) :
  Calls Tryz.prog 31 #[.pointer (some ⟨p, 0, none⟩), .agg (clC c)] w fun e w' => e = .returned (.int .i64 1) ∧ Below w.heap.size w w' := by
 have r1 := heap_alloc_new w (.cells (clC c) 55)
 have hb1 := nwB w (.cells (clC c) 55)
 have HR := hide r1
 clear r1
 go_enter func31, ntmps31
 go_wp2_with (first | (refine wl_cl (.tmp 3) rfl (by rfl) rfl HR.out ?_) | (refine (proper_of c _).mono ?_; rintro e w2 ⟨rfl, hb2⟩; rw [hc]; have hb3 := bnext hb1 hb2))
 go_ret
 exact ⟨rfl, hb3⟩
theorem cl_sameb {o c : Dg.Cl} (h : o.id = c.id) (g : Bool) : decide (({ o with gone := g } : Dg.Cl) = { c with gone := g }) = decide (o.after = c.after ∧ o.patch = c.patch) := by
 refine decide_eq_decide.2 ⟨fun e => ?_, fun e => ?_⟩
 ·injection e with _ e2 e3 _
  exact ⟨e2, e3⟩
 ·rw [h, e.1, e.2]
attribute [-go_sem] Instr.storeAt in
theorem put_old (p m : Nat) (pg : List Dg.Cl) (hl : pg.length ≤ 100000) (c o : Dg.Cl) (hok : Dg.clOk c = true) (hgo : Dg.getC pg c.id = some o) (R : Bool) (hRR : decide (o.after = c.after ∧ o.patch = c.patch) = R) (k : Int) (hk : (bif R then (0 : Int) else 9) = k) (pg' : List Dg.Cl) (hpp : (bif R then Dg.setC pg { o with gone := o.gone || c.gone } else pg) = pg') (w : World) (h : PageAt w p m pg) :
  Calls Tryz.prog 31 #[.pointer (some ⟨p, 0, none⟩), .agg (clC c)] w fun e w' => e = .returned (.int .i64 k) ∧ PageAt w' p m pg' ∧ w.grownBy w' (some m) := by
 have hmx := hmxQ
 have HRR := hide hRR; have HKK := hide hk; have HPP := hide hpp
 clear hRR hk hpp
 have HSP := hide (sp_w (Dg.clOk_id hok))
 have HGO := hide (show Dg.getC pg ⟨c.id.seat, c.id.count⟩ = some o from hgo)
 have r1 := heap_alloc_new w (.cells (clC c) 55)
 have hb1 := nwB w (.cells (clC c) 55)
 have hp1 := h.below hb1
 have HR := hide r1; have HP1 := hide hp1; have HB1 := hide hb1; have HP0 := hide h
 clear r1 hp1 hb1 h
 go_enter func31, ntmps31
 go_upto_region 3 with (first | (refine wl_cl (.tmp 3) rfl (by rfl) rfl HR.out ?_) | (refine (proper_of c _).mono ?_; rintro e w2 ⟨rfl, hb2⟩; rw [hok]))
 have hrc := iNext HR.out hb2
 have hpg := HP1.out.below hb2
 have hb3 := bnext HB1.out hb2
 have hwB := lt_of_block hrc
 have hwB0 := hide (show w.heap.size < w2.drew.heap.size from hwB)
 clear HR HP1 HB1 hb2
 generalize hbc : w.heap.size = bc at *
 refine wp_region_noPanic ?_
 refine wp_region_L (Below w2.drew.heap.size w2.drew) 13 hmx ?_
 have hb4 := hb3.drew
 have hdr := (Below.refl w2.heap.size w2).drew
 have hpg' := hpg.below hdr
 have hrc' := iNext hrc hdr
 have HPK := hide (fun X (hX : Below w2.drew.heap.size w2.drew X) => hpg'.below hX)
 have HCK := hide (fun X (hX : Below w2.drew.heap.size w2.drew X) => iNext hrc' hX)
 have hH0 := Below.refl w2.drew.heap.size w2.drew
 clear hpg hrc hb3 hpg' hrc' hdr
 generalize w2.drew = u0 at *
 refine tU 0 15 hH0 rfl ?_
 refine tU 1 15 hH0 rfl ?_
 refine tU 2 15 hH0 rfl ?_
 refine tU 3 15 hH0 rfl ?_ (by intro wS hS; have f0 : wS.cell? ⟨p, 0, none⟩ = some (.map (some m)) := cell_of_row _ _ 0 _ _ _ (HPK.out _ hS).row; go_simp; (try with_reducible rfl))
 refine tU 4 15 hH0 rfl ?_
 refine tkY 5 15 ?_ rfl ?_ hH0 ?_
 rotate_left
 ·intro wS hS; have f0 : wS.cell? ⟨bc, 0, none⟩ = some (.int .i64 c.id.seat) := cell_of_row _ _ 0 _ _ _ (HCK.out _ hS)
  have f1 : wS.cell? ⟨bc, 1, none⟩ = some (.int .i64 c.id.count) := cell_of_row _ _ 1 _ _ _ (HCK.out _ hS); go_simp; (try with_reducible rfl)
 simp only [Act.put, pu]
 refine tkY 6 15 ?_ rfl ?_ hH0 ?_
 rotate_left
 ·intro wS hS; have f0 := look_page (HPK.out _ hS).map HSP.out
  rw [HGO.out] at f0; go_simp; (try with_reducible rfl)
 simp only [Act.put, pu]
 refine tU 7 15 hH0 rfl ?_
 refine tU 8 15 hH0 rfl ?_
 refine tU 9 15 hH0 rfl ?_
 refine oY 10 fun K hK => ?_
 go_simp
 have hH1 := hH0.alloc (Nat.le_refl _) (.cells Rq17 55)
 refine hK.out _ _ (Or.inr hH1) ?_
 clear hK K
 try simp only [Act.put, pu]
 refine oY 11 fun K hK => ?_
 have hst := store_newcl u0 (o)
 go_simp
 have hH2 := hH0.alloc (Nat.le_refl _) (.cells (clC (o)) 55)
 have hr5 := heap_alloc_new u0 (.cells (clC (o)) 55)
 refine hK.out _ _ (Or.inr hH2) ?_
 clear hK K hst hH1
 try simp only [Act.put, pu]
 refine tU 12 15 hH2 rfl ?_
 refine dnY ?_
 have hb5 := hb4.alloc (Nat.le_trans (Nat.le_of_lt hwB0.out) (Nat.le_refl _)) (.cells (clC o) 55)
 have hp5 := HPK.out _ hH2
 have hc5 := HCK.out _ hH2
 clear hH0 hH2 HPK HCK hb4
 generalize u0.alloc (.cells (clC o) 55) = w5 at *
 generalize u0.heap.size = b5 at *
 obtain ⟨g, hg⟩ : ∃ g, (o.gone || c.gone) = g := ⟨_, rfl⟩
 have hoid : o.id = c.id := (Dg.getC_some hgo).2
 have hR : decide (({ o with gone := g } : Dg.Cl) = { c with gone := g }) = R := (cl_sameb hoid g).trans HRR.out
 have H5 := hide hr5; have HC5 := hide hc5; have HP5 := hide hp5; have HB5 := hide hb5; have HG := hide hg; have HR := hide hR; have HGO2 := hide hgo; have HOID := hide hoid
 clear hr5 hc5 hp5 hb5 hg hR hgo hoid hok
 cases R with
 | false =>
  go_wp2_with (first | (refine wl_cl (.tmp 5) rfl (by rfl) rfl H5.out ?_) | (refine wl_cl (.tmp 3) rfl (by rfl) rfl HC5.out ?_) | (refine (merge_of o c g HG.out false HR.out _).mono ?_; rintro e w4 ⟨rfl, hb6⟩; have hst := store_newcl w4 { o with gone := g }; have hb7 := hb6.alloc hb6.size (.cells (clC { o with gone := g }) 55)))
  go_ret
  refine ⟨congrArg (fun n => Ending.returned (.int .i64 n)) HKK.out, by rw [← HPP.out]; exact HP5.out.below hb7, grown_of_below ?_ _⟩
  rw [hbc]
  have h1 := HB5.out.size
  exact HB5.out.trans (hb7.mono (by omega))
 | true =>
  go_upto_region 8 with (first | (refine wl_cl (.tmp 5) rfl (by rfl) rfl H5.out ?_) | (refine wl_cl (.tmp 3) rfl (by rfl) rfl HC5.out ?_) | (refine (merge_of o c g HG.out true HR.out _).mono ?_; rintro e w4 ⟨rfl, hb6⟩; have hst := store_newcl w4 { o with gone := g }; have hb7 := hb6.alloc hb6.size (.cells (clC { o with gone := g }) 55); have hr7 := heap_alloc_new w4 (.cells (clC { o with gone := g }) 55)))
  clear hst
  have hp7 := HP5.out.below hb7
  have hc7 := iNext HC5.out hb7
  have hB7 : Below bc w (w4.alloc (.cells (clC { o with gone := g }) 55)) := HB5.out.trans (hb7.mono (by have := HB5.out.size; omega))
  clear hb6 hb7
  generalize w4.alloc (.cells (clC { o with gone := g }) 55) = w7 at *
  generalize w4.heap.size = b7 at *
  refine wp_region_noPanic ?_
  refine wp_region_L (Below w7.drew.heap.size w7.drew) 7 hmx ?_
  have hb8 := hB7.drew
  have hdr := (Below.refl w7.heap.size w7).drew
  have hp8 := hp7.below hdr
  have hc8 := iNext hc7 hdr
  have hr8 := iNext hr7 hdr
  have HPK := hide (fun X (hX : Below w7.drew.heap.size w7.drew X) => hp8.below hX)
  have HCK := hide (fun X (hX : Below w7.drew.heap.size w7.drew X) => iNext hc8 hX)
  have HNK := hide (fun X (hX : Below w7.drew.heap.size w7.drew X) => iNext hr8 hX)
  have hH0 := Below.refl w7.drew.heap.size w7.drew
  clear hp7 hc7 hB7 hdr hp8 hc8 hr8 hr7
  generalize w7.drew = u1 at *
  refine tU 0 10 hH0 rfl ?_
  refine tU 1 10 hH0 rfl ?_
  refine tU 2 10 hH0 rfl ?_
  refine tU 3 10 hH0 rfl ?_ (by intro wS hS; have f0 : wS.cell? ⟨p, 0, none⟩ = some (.map (some m)) := cell_of_row _ _ 0 _ _ _ (HPK.out _ hS).row; go_simp; (try with_reducible rfl))
  refine tU 4 10 hH0 rfl ?_
  refine tkY 5 10 ?_ rfl ?_ hH0 ?_
  rotate_left
  ·intro wS hS; have f0 : wS.cell? ⟨bc, 0, none⟩ = some (.int .i64 c.id.seat) := cell_of_row _ _ 0 _ _ _ (HCK.out _ hS)
   have f1 : wS.cell? ⟨bc, 1, none⟩ = some (.int .i64 c.id.count) := cell_of_row _ _ 1 _ _ _ (HCK.out _ hS); go_simp; (try with_reducible rfl)
  simp only [Act.put, pu]
  refine tkV 6 10 (.agg (clC ({ o with gone := g } : Dg.Cl))) rfl (by exact yl_cl (.tmp 7) rfl (by rfl) (by rfl) (fun X hX => HNK.out X hX)) hH0 ?_
  simp only [Act.put, pu]
  refine oY 7 fun K hK => ?_
  obtain ⟨u2, hrun, hmap, hgr⟩ := lay_set (c := { o with gone := g }) (HPK.out _ hH0).map hl (Dg.getC_some HGO2.out).1 rfl c.id HOID.out.symm
  go_simp
  refine hK.out _ _ (Or.inl rfl) ?_
  clear hK K hrun
  try simp only [Act.put, pu]
  refine dnY ?_
  go_wp2
  go_ret
  refine ⟨congrArg (fun n => Ending.returned (.int .i64 n)) HKK.out, ⟨?_, ?_⟩, ?_⟩
  ·exact (hgr.block p (HPK.out _ hH0).lt (fun e => (HPK.out _ hH0).ne (by injection e))).trans (HPK.out _ hH0).row
  ·rw [← HPP.out, HG.out]
   exact hmap
  ·rw [← hbc] at hb8
   exact grown_after hb8 hgr
theorem after_w {c : Dg.Cl} (h : Dg.clOk c = true) : SpW c.after := by
 unfold Dg.clOk at h
 rw [Bool.and_eq_true, Bool.or_eq_true, Bool.and_eq_true, decide_eq_true_eq] at h
 rcases h.1 with e | e
 ·rw [e]; exact sp0_w
 ·exact sp_w e.1
attribute [-go_sem] Instr.storeAt in
theorem put_none (p m : Nat) (pg : List Dg.Cl) (c : Dg.Cl) (hok : Dg.clOk c = true) (hgo : Dg.getC pg c.id = none) (hno : Dg.getC pg c.after = none ∧ c.after ≠ Dg.Sp0) (w : World) (h : PageAt w p m pg) :
  Calls Tryz.prog 31 #[.pointer (some ⟨p, 0, none⟩), .agg (clC c)] w fun e w' => e = .returned (.int .i64 11) ∧ PageAt w' p m pg ∧ w.grownBy w' (some m) := by
 have hmx := hmxQ
 have HSP := hide (sp_w (Dg.clOk_id hok))
 have HSA := hide (after_w hok)
 have HGO := hide (show Dg.getC pg ⟨c.id.seat, c.id.count⟩ = none from hgo)
 have r1 := heap_alloc_new w (.cells (clC c) 55)
 have hb1 := nwB w (.cells (clC c) 55)
 have hp1 := h.below hb1
 have HR := hide r1; have HP1 := hide hp1; have HB1 := hide hb1; have HP0 := hide h
 clear r1 hp1 hb1 h
 go_enter func31, ntmps31
 go_upto_region 3 with (first | (refine wl_cl (.tmp 3) rfl (by rfl) rfl HR.out ?_) | (refine (proper_of c _).mono ?_; rintro e w2 ⟨rfl, hb2⟩; rw [hok]))
 have hrc := iNext HR.out hb2
 have hpg := HP1.out.below hb2
 have hb3 := bnext HB1.out hb2
 have hwB := lt_of_block hrc
 have hwB0 := hide (show w.heap.size < w2.drew.heap.size from hwB)
 clear HR HP1 HB1 hb2
 generalize hbc : w.heap.size = bc at *
 refine wp_region_noPanic ?_
 refine wp_region_L (Below w2.drew.heap.size w2.drew) 13 hmx ?_
 have hb4 := hb3.drew
 have hdr := (Below.refl w2.heap.size w2).drew
 have hpg' := hpg.below hdr
 have hrc' := iNext hrc hdr
 have HPK := hide (fun X (hX : Below w2.drew.heap.size w2.drew X) => hpg'.below hX)
 have HCK := hide (fun X (hX : Below w2.drew.heap.size w2.drew X) => iNext hrc' hX)
 have hH0 := Below.refl w2.drew.heap.size w2.drew
 clear hpg hrc hb3 hpg' hrc' hdr
 generalize w2.drew = u0 at *
 refine tU 0 15 hH0 rfl ?_
 refine tU 1 15 hH0 rfl ?_
 refine tU 2 15 hH0 rfl ?_
 refine tU 3 15 hH0 rfl ?_ (by intro wS hS; have f0 : wS.cell? ⟨p, 0, none⟩ = some (.map (some m)) := cell_of_row _ _ 0 _ _ _ (HPK.out _ hS).row; go_simp; (try with_reducible rfl))
 refine tU 4 15 hH0 rfl ?_
 refine tkY 5 15 ?_ rfl ?_ hH0 ?_
 rotate_left
 ·intro wS hS; have f0 : wS.cell? ⟨bc, 0, none⟩ = some (.int .i64 c.id.seat) := cell_of_row _ _ 0 _ _ _ (HCK.out _ hS)
  have f1 : wS.cell? ⟨bc, 1, none⟩ = some (.int .i64 c.id.count) := cell_of_row _ _ 1 _ _ _ (HCK.out _ hS); go_simp; (try with_reducible rfl)
 simp only [Act.put, pu]
 refine tkY 6 15 ?_ rfl ?_ hH0 ?_
 rotate_left
 ·intro wS hS; have f0 := look_page (HPK.out _ hS).map HSP.out
  rw [HGO.out] at f0; go_simp; (try with_reducible rfl)
 simp only [Act.put, pu]
 refine tU 7 15 hH0 rfl ?_
 refine tU 8 15 hH0 rfl ?_
 refine tU 9 15 hH0 rfl ?_
 refine oY 10 fun K hK => ?_
 go_simp
 have hH1 := hH0.alloc (Nat.le_refl _) (.cells Rq17 55)
 refine hK.out _ _ (Or.inr hH1) ?_
 clear hK K
 try simp only [Act.put, pu]
 refine oY 11 fun K hK => ?_
 have hst := store_newcl u0 (Dg.Cl0)
 go_simp
 have hH2 := hH0.alloc (Nat.le_refl _) (.cells (clC (Dg.Cl0)) 55)
 have hr5 := heap_alloc_new u0 (.cells (clC (Dg.Cl0)) 55)
 refine hK.out _ _ (Or.inr hH2) ?_
 clear hK K hst hH1
 try simp only [Act.put, pu]
 refine tU 12 15 hH2 rfl ?_
 refine dnY ?_
 have hb5 := hb4.alloc (Nat.le_trans (Nat.le_of_lt hwB0.out) (Nat.le_refl _)) (.cells (clC Dg.Cl0) 55)
 have hp5 := HPK.out _ hH2
 have hc5 := HCK.out _ hH2
 have hsz : bc < (u0.alloc (.cells (clC Dg.Cl0) 55)).heap.size := by
  have := hH2.size
  have := hwB0.out
  omega
 clear hH0 hH2 HPK HCK hb4 hr5
 generalize u0.alloc (.cells (clC Dg.Cl0) 55) = w5 at *
 generalize u0.heap.size = b5 at *
 have hpg := hp5; have hrc := hc5; have hb3 := hb5
 clear hp5 hc5 hb5 hwB0
 obtain ⟨qq, hq⟩ : ∃ qq, Dg.getC pg ⟨c.after.seat, c.after.count⟩ = qq := ⟨_, rfl⟩
 have HQ := hide hq
 clear hq
 go_upto_region 10 with fail
 have hszd : bc < w5.drew.heap.size := hsz
 refine wp_region_noPanic ?_
 refine wp_region_L (Below w5.drew.heap.size w5.drew) 13 hmx ?_
 have hb4 := hb3.drew
 have hdr := (Below.refl w5.heap.size w5).drew
 have hpg' := hpg.below hdr
 have hrc' := iNext hrc hdr
 have HPK := hide (fun X (hX : Below w5.drew.heap.size w5.drew X) => hpg'.below hX)
 have HCK := hide (fun X (hX : Below w5.drew.heap.size w5.drew X) => iNext hrc' hX)
 have hH0 := Below.refl w5.drew.heap.size w5.drew
 clear hpg hrc hb3 hpg' hrc' hdr
 generalize w5.drew = u0 at *
 refine tU 0 15 hH0 rfl ?_
 refine tU 1 15 hH0 rfl ?_
 refine tU 2 15 hH0 rfl ?_
 refine tU 3 15 hH0 rfl ?_ (by intro wS hS; have f0 : wS.cell? ⟨p, 0, none⟩ = some (.map (some m)) := cell_of_row _ _ 0 _ _ _ (HPK.out _ hS).row; go_simp; (try with_reducible rfl))
 refine tU 4 15 hH0 rfl ?_
 refine tkY 5 15 ?_ rfl ?_ hH0 ?_
 rotate_left
 ·intro wS hS; have f0 : wS.cell? ⟨bc, 2, none⟩ = some (.int .i64 c.after.seat) := cell_of_row _ _ 2 _ _ _ (HCK.out _ hS)
  have f1 : wS.cell? ⟨bc, 3, none⟩ = some (.int .i64 c.after.count) := cell_of_row _ _ 3 _ _ _ (HCK.out _ hS); go_simp; (try with_reducible rfl)
 simp only [Act.put, pu]
 refine tkY 6 15 ?_ rfl ?_ hH0 ?_
 rotate_left
 ·intro wS hS; have f0 := look_page (HPK.out _ hS).map HSA.out
  rw [HQ.out] at f0; go_simp; (try with_reducible rfl)
 simp only [Act.put, pu]
 refine tU 7 15 hH0 rfl ?_
 refine tU 8 15 hH0 rfl ?_
 refine tU 9 15 hH0 rfl ?_
 refine oY 10 fun K hK => ?_
 go_simp
 have hH1 := hH0.alloc (Nat.le_refl _) (.cells Rq17 55)
 refine hK.out _ _ (Or.inr hH1) ?_
 clear hK K
 try simp only [Act.put, pu]
 refine oY 11 fun K hK => ?_
 have hst := store_newcl u0 (qq.getD Dg.Cl0)
 go_simp
 have hH2 := hH0.alloc (Nat.le_refl _) (.cells (clC (qq.getD Dg.Cl0)) 55)
 have hr5 := heap_alloc_new u0 (.cells (clC (qq.getD Dg.Cl0)) 55)
 refine hK.out _ _ (Or.inr hH2) ?_
 clear hK K hst hH1
 try simp only [Act.put, pu]
 refine tU 12 15 hH2 rfl ?_
 refine dnY ?_
 have hb5 := hb4.alloc (Nat.le_of_lt hszd) (.cells (clC (qq.getD Dg.Cl0)) 55)
 have hp5 := HPK.out _ hH2
 have hc5 := HCK.out _ hH2
 clear hH0 hH2 HPK HCK hb4 hr5 hsz hszd
 generalize u0.alloc (.cells (clC (qq.getD Dg.Cl0)) 55) = w6 at *
 generalize u0.heap.size = b9 at *
 have l2 : w6.cell? ⟨bc, 2, none⟩ = some (.int .i64 c.after.seat) := cell_of_row _ _ 2 _ _ _ hc5
 have l3 : w6.cell? ⟨bc, 3, none⟩ = some (.int .i64 c.after.count) := cell_of_row _ _ 3 _ _ _ hc5
 have l19 : w6.cell? ⟨bc, 19, none⟩ = some (.bool c.gone) := cell_of_row _ _ 19 _ _ _ hc5
 have lp : w6.cell? ⟨p, 0, none⟩ = some (.map (some m)) := cell_of_row _ _ 0 _ _ _ hp5.row
 obtain rfl : qq = none := HQ.out.symm.trans hno.1
 have hne : ¬ (c.after.seat = 0 ∧ c.after.count = 0) := fun e => hno.2 (by cases hca : c.after with | mk a b => rw [hca] at e; obtain ⟨e1, e2⟩ := e; cases e1; cases e2; rfl)
 have HP5 := hide hp5; have HB5 := hide hb5
 clear hp5 hb5 hc5 hno
 go_wp2
 all_goals first
  | (exfalso; omega)
  | (go_ret; exact ⟨rfl, HP5.out, grown_of_below (by rw [hbc]; exact HB5.out) _⟩)
attribute [-go_sem] Instr.storeAt in
theorem put_full (p m : Nat) (pg : List Dg.Cl) (hl : pg.length ≤ 100000) (c : Dg.Cl) (hok : Dg.clOk c = true) (hgo : Dg.getC pg c.id = none) (hup : ¬ (Dg.getC pg c.after = none ∧ c.after ≠ Dg.Sp0)) (hg : c.gone = false) (hf : 64 ≤ Dg.openN pg) (w : World) (h : PageAt w p m pg) :
  Calls Tryz.prog 31 #[.pointer (some ⟨p, 0, none⟩), .agg (clC c)] w fun e w' => e = .returned (.int .i64 27) ∧ PageAt w' p m pg ∧ w.grownBy w' (some m) := by
 have hmx := hmxQ
 have HSP := hide (sp_w (Dg.clOk_id hok))
 have HSA := hide (after_w hok)
 have HGO := hide (show Dg.getC pg ⟨c.id.seat, c.id.count⟩ = none from hgo)
 have r1 := heap_alloc_new w (.cells (clC c) 55)
 have hb1 := nwB w (.cells (clC c) 55)
 have hp1 := h.below hb1
 have HR := hide r1; have HP1 := hide hp1; have HB1 := hide hb1; have HP0 := hide h
 clear r1 hp1 hb1 h
 go_enter func31, ntmps31
 go_upto_region 3 with (first | (refine wl_cl (.tmp 3) rfl (by rfl) rfl HR.out ?_) | (refine (proper_of c _).mono ?_; rintro e w2 ⟨rfl, hb2⟩; rw [hok]))
 have hrc := iNext HR.out hb2
 have hpg := HP1.out.below hb2
 have hb3 := bnext HB1.out hb2
 have hwB := lt_of_block hrc
 have hwB0 := hide (show w.heap.size < w2.drew.heap.size from hwB)
 clear HR HP1 HB1 hb2
 generalize hbc : w.heap.size = bc at *
 refine wp_region_noPanic ?_
 refine wp_region_L (Below w2.drew.heap.size w2.drew) 13 hmx ?_
 have hb4 := hb3.drew
 have hdr := (Below.refl w2.heap.size w2).drew
 have hpg' := hpg.below hdr
 have hrc' := iNext hrc hdr
 have HPK := hide (fun X (hX : Below w2.drew.heap.size w2.drew X) => hpg'.below hX)
 have HCK := hide (fun X (hX : Below w2.drew.heap.size w2.drew X) => iNext hrc' hX)
 have hH0 := Below.refl w2.drew.heap.size w2.drew
 clear hpg hrc hb3 hpg' hrc' hdr
 generalize w2.drew = u0 at *
 refine tU 0 15 hH0 rfl ?_
 refine tU 1 15 hH0 rfl ?_
 refine tU 2 15 hH0 rfl ?_
 refine tU 3 15 hH0 rfl ?_ (by intro wS hS; have f0 : wS.cell? ⟨p, 0, none⟩ = some (.map (some m)) := cell_of_row _ _ 0 _ _ _ (HPK.out _ hS).row; go_simp; (try with_reducible rfl))
 refine tU 4 15 hH0 rfl ?_
 refine tkY 5 15 ?_ rfl ?_ hH0 ?_
 rotate_left
 ·intro wS hS; have f0 : wS.cell? ⟨bc, 0, none⟩ = some (.int .i64 c.id.seat) := cell_of_row _ _ 0 _ _ _ (HCK.out _ hS)
  have f1 : wS.cell? ⟨bc, 1, none⟩ = some (.int .i64 c.id.count) := cell_of_row _ _ 1 _ _ _ (HCK.out _ hS); go_simp; (try with_reducible rfl)
 simp only [Act.put, pu]
 refine tkY 6 15 ?_ rfl ?_ hH0 ?_
 rotate_left
 ·intro wS hS; have f0 := look_page (HPK.out _ hS).map HSP.out
  rw [HGO.out] at f0; go_simp; (try with_reducible rfl)
 simp only [Act.put, pu]
 refine tU 7 15 hH0 rfl ?_
 refine tU 8 15 hH0 rfl ?_
 refine tU 9 15 hH0 rfl ?_
 refine oY 10 fun K hK => ?_
 go_simp
 have hH1 := hH0.alloc (Nat.le_refl _) (.cells Rq17 55)
 refine hK.out _ _ (Or.inr hH1) ?_
 clear hK K
 try simp only [Act.put, pu]
 refine oY 11 fun K hK => ?_
 have hst := store_newcl u0 (Dg.Cl0)
 go_simp
 have hH2 := hH0.alloc (Nat.le_refl _) (.cells (clC (Dg.Cl0)) 55)
 have hr5 := heap_alloc_new u0 (.cells (clC (Dg.Cl0)) 55)
 refine hK.out _ _ (Or.inr hH2) ?_
 clear hK K hst hH1
 try simp only [Act.put, pu]
 refine tU 12 15 hH2 rfl ?_
 refine dnY ?_
 have hb5 := hb4.alloc (Nat.le_trans (Nat.le_of_lt hwB0.out) (Nat.le_refl _)) (.cells (clC Dg.Cl0) 55)
 have hp5 := HPK.out _ hH2
 have hc5 := HCK.out _ hH2
 have hsz : bc < (u0.alloc (.cells (clC Dg.Cl0) 55)).heap.size := by
  have := hH2.size
  have := hwB0.out
  omega
 clear hH0 hH2 HPK HCK hb4 hr5
 generalize u0.alloc (.cells (clC Dg.Cl0) 55) = w5 at *
 generalize u0.heap.size = b5 at *
 have hpg := hp5; have hrc := hc5; have hb3 := hb5
 clear hp5 hc5 hb5 hwB0
 obtain ⟨qq, hq⟩ : ∃ qq, Dg.getC pg ⟨c.after.seat, c.after.count⟩ = qq := ⟨_, rfl⟩
 have HQ := hide hq
 clear hq
 go_upto_region 10 with fail
 have hszd : bc < w5.drew.heap.size := hsz
 refine wp_region_noPanic ?_
 refine wp_region_L (Below w5.drew.heap.size w5.drew) 13 hmx ?_
 have hb4 := hb3.drew
 have hdr := (Below.refl w5.heap.size w5).drew
 have hpg' := hpg.below hdr
 have hrc' := iNext hrc hdr
 have HPK := hide (fun X (hX : Below w5.drew.heap.size w5.drew X) => hpg'.below hX)
 have HCK := hide (fun X (hX : Below w5.drew.heap.size w5.drew X) => iNext hrc' hX)
 have hH0 := Below.refl w5.drew.heap.size w5.drew
 clear hpg hrc hb3 hpg' hrc' hdr
 generalize w5.drew = u0 at *
 refine tU 0 15 hH0 rfl ?_
 refine tU 1 15 hH0 rfl ?_
 refine tU 2 15 hH0 rfl ?_
 refine tU 3 15 hH0 rfl ?_ (by intro wS hS; have f0 : wS.cell? ⟨p, 0, none⟩ = some (.map (some m)) := cell_of_row _ _ 0 _ _ _ (HPK.out _ hS).row; go_simp; (try with_reducible rfl))
 refine tU 4 15 hH0 rfl ?_
 refine tkY 5 15 ?_ rfl ?_ hH0 ?_
 rotate_left
 ·intro wS hS; have f0 : wS.cell? ⟨bc, 2, none⟩ = some (.int .i64 c.after.seat) := cell_of_row _ _ 2 _ _ _ (HCK.out _ hS)
  have f1 : wS.cell? ⟨bc, 3, none⟩ = some (.int .i64 c.after.count) := cell_of_row _ _ 3 _ _ _ (HCK.out _ hS); go_simp; (try with_reducible rfl)
 simp only [Act.put, pu]
 refine tkY 6 15 ?_ rfl ?_ hH0 ?_
 rotate_left
 ·intro wS hS; have f0 := look_page (HPK.out _ hS).map HSA.out
  rw [HQ.out] at f0; go_simp; (try with_reducible rfl)
 simp only [Act.put, pu]
 refine tU 7 15 hH0 rfl ?_
 refine tU 8 15 hH0 rfl ?_
 refine tU 9 15 hH0 rfl ?_
 refine oY 10 fun K hK => ?_
 go_simp
 have hH1 := hH0.alloc (Nat.le_refl _) (.cells Rq17 55)
 refine hK.out _ _ (Or.inr hH1) ?_
 clear hK K
 try simp only [Act.put, pu]
 refine oY 11 fun K hK => ?_
 have hst := store_newcl u0 (qq.getD Dg.Cl0)
 go_simp
 have hH2 := hH0.alloc (Nat.le_refl _) (.cells (clC (qq.getD Dg.Cl0)) 55)
 have hr5 := heap_alloc_new u0 (.cells (clC (qq.getD Dg.Cl0)) 55)
 refine hK.out _ _ (Or.inr hH2) ?_
 clear hK K hst hH1
 try simp only [Act.put, pu]
 refine tU 12 15 hH2 rfl ?_
 refine dnY ?_
 have hb5 := hb4.alloc (Nat.le_of_lt hszd) (.cells (clC (qq.getD Dg.Cl0)) 55)
 have hp5 := HPK.out _ hH2
 have hc5 := HCK.out _ hH2
 clear hH0 hH2 HPK HCK hb4 hr5 hsz hszd
 generalize u0.alloc (.cells (clC (qq.getD Dg.Cl0)) 55) = w6 at *
 generalize u0.heap.size = b9 at *
 have l2 : w6.cell? ⟨bc, 2, none⟩ = some (.int .i64 c.after.seat) := cell_of_row _ _ 2 _ _ _ hc5
 have l3 : w6.cell? ⟨bc, 3, none⟩ = some (.int .i64 c.after.count) := cell_of_row _ _ 3 _ _ _ hc5
 have l19 : w6.cell? ⟨bc, 19, none⟩ = some (.bool c.gone) := cell_of_row _ _ 19 _ _ _ hc5
 have lp : w6.cell? ⟨p, 0, none⟩ = some (.map (some m)) := cell_of_row _ _ 0 _ _ _ hp5.row
 have hz : qq = none → c.after.seat = 0 ∧ c.after.count = 0 := fun e => by
  have h1 : Dg.getC pg c.after = none := HQ.out.trans e
  have h2 : c.after = Dg.Sp0 := Decidable.by_contra fun h => hup ⟨h1, h⟩
  rw [h2]
  exact ⟨rfl, rfl⟩
 have HZ := hide hz
 clear hz hup
 rw [hg] at l19
 have HP5 := hide hp5; have HB5 := hide hb5
 have HW := hide (show bc ≤ w6.heap.size by have := lt_of_block hc5; omega)
 clear hp5 hb5 hc5
 cases qq with
 | some x =>
  go_wp2_with (refine (open_of m pg hl _ HP5.out.map).mono ?_; rintro e w8 ⟨rfl, hb8⟩)
  all_goals first
   | (exfalso; omega)
   | (go_ret; exact ⟨rfl, HP5.out.below hb8, grown_of_below (by rw [hbc]; exact HB5.out.trans (hb8.mono HW.out)) _⟩)
 | none =>
  obtain ⟨z1, z2⟩ := HZ.out rfl
  rw [z1] at l2
  rw [z2] at l3
  go_wp2_with (refine (open_of m pg hl _ HP5.out.map).mono ?_; rintro e w8 ⟨rfl, hb8⟩)
  all_goals first
   | (exfalso; omega)
   | (go_ret; exact ⟨rfl, HP5.out.below hb8, grown_of_below (by rw [hbc]; exact HB5.out.trans (hb8.mono HW.out)) _⟩)
attribute [-go_sem] Instr.storeAt in
theorem put_ins (p m : Nat) (pg : List Dg.Cl) (hl : pg.length ≤ 100000) (c : Dg.Cl) (hok : Dg.clOk c = true) (hgo : Dg.getC pg c.id = none) (hup : ¬ (Dg.getC pg c.after = none ∧ c.after ≠ Dg.Sp0)) (hf : ¬ (c.gone = false ∧ 64 ≤ Dg.openN pg)) (w : World) (h : PageAt w p m pg) :
  Calls Tryz.prog 31 #[.pointer (some ⟨p, 0, none⟩), .agg (clC c)] w fun e w' => e = .returned (.int .i64 0) ∧ PageAt w' p m (pg ++ [c]) ∧ w.grownBy w' (some m) := by
 have hmx := hmxQ
 have HSP := hide (sp_w (Dg.clOk_id hok))
 have HSA := hide (after_w hok)
 have HGO := hide (show Dg.getC pg ⟨c.id.seat, c.id.count⟩ = none from hgo)
 have r1 := heap_alloc_new w (.cells (clC c) 55)
 have hb1 := nwB w (.cells (clC c) 55)
 have hp1 := h.below hb1
 have HR := hide r1; have HP1 := hide hp1; have HB1 := hide hb1; have HP0 := hide h
 clear r1 hp1 hb1 h
 go_enter func31, ntmps31
 go_upto_region 3 with (first | (refine wl_cl (.tmp 3) rfl (by rfl) rfl HR.out ?_) | (refine (proper_of c _).mono ?_; rintro e w2 ⟨rfl, hb2⟩; rw [hok]))
 have hrc := iNext HR.out hb2
 have hpg := HP1.out.below hb2
 have hb3 := bnext HB1.out hb2
 have hwB := lt_of_block hrc
 have hwB0 := hide (show w.heap.size < w2.drew.heap.size from hwB)
 clear HR HP1 HB1 hb2
 generalize hbc : w.heap.size = bc at *
 refine wp_region_noPanic ?_
 refine wp_region_L (Below w2.drew.heap.size w2.drew) 13 hmx ?_
 have hb4 := hb3.drew
 have hdr := (Below.refl w2.heap.size w2).drew
 have hpg' := hpg.below hdr
 have hrc' := iNext hrc hdr
 have HPK := hide (fun X (hX : Below w2.drew.heap.size w2.drew X) => hpg'.below hX)
 have HCK := hide (fun X (hX : Below w2.drew.heap.size w2.drew X) => iNext hrc' hX)
 have hH0 := Below.refl w2.drew.heap.size w2.drew
 clear hpg hrc hb3 hpg' hrc' hdr
 generalize w2.drew = u0 at *
 refine tU 0 15 hH0 rfl ?_
 refine tU 1 15 hH0 rfl ?_
 refine tU 2 15 hH0 rfl ?_
 refine tU 3 15 hH0 rfl ?_ (by intro wS hS; have f0 : wS.cell? ⟨p, 0, none⟩ = some (.map (some m)) := cell_of_row _ _ 0 _ _ _ (HPK.out _ hS).row; go_simp; (try with_reducible rfl))
 refine tU 4 15 hH0 rfl ?_
 refine tkY 5 15 ?_ rfl ?_ hH0 ?_
 rotate_left
 ·intro wS hS; have f0 : wS.cell? ⟨bc, 0, none⟩ = some (.int .i64 c.id.seat) := cell_of_row _ _ 0 _ _ _ (HCK.out _ hS)
  have f1 : wS.cell? ⟨bc, 1, none⟩ = some (.int .i64 c.id.count) := cell_of_row _ _ 1 _ _ _ (HCK.out _ hS); go_simp; (try with_reducible rfl)
 simp only [Act.put, pu]
 refine tkY 6 15 ?_ rfl ?_ hH0 ?_
 rotate_left
 ·intro wS hS; have f0 := look_page (HPK.out _ hS).map HSP.out
  rw [HGO.out] at f0; go_simp; (try with_reducible rfl)
 simp only [Act.put, pu]
 refine tU 7 15 hH0 rfl ?_
 refine tU 8 15 hH0 rfl ?_
 refine tU 9 15 hH0 rfl ?_
 refine oY 10 fun K hK => ?_
 go_simp
 have hH1 := hH0.alloc (Nat.le_refl _) (.cells Rq17 55)
 refine hK.out _ _ (Or.inr hH1) ?_
 clear hK K
 try simp only [Act.put, pu]
 refine oY 11 fun K hK => ?_
 have hst := store_newcl u0 (Dg.Cl0)
 go_simp
 have hH2 := hH0.alloc (Nat.le_refl _) (.cells (clC (Dg.Cl0)) 55)
 have hr5 := heap_alloc_new u0 (.cells (clC (Dg.Cl0)) 55)
 refine hK.out _ _ (Or.inr hH2) ?_
 clear hK K hst hH1
 try simp only [Act.put, pu]
 refine tU 12 15 hH2 rfl ?_
 refine dnY ?_
 have hb5 := hb4.alloc (Nat.le_trans (Nat.le_of_lt hwB0.out) (Nat.le_refl _)) (.cells (clC Dg.Cl0) 55)
 have hp5 := HPK.out _ hH2
 have hc5 := HCK.out _ hH2
 have hsz : bc < (u0.alloc (.cells (clC Dg.Cl0) 55)).heap.size := by
  have := hH2.size
  have := hwB0.out
  omega
 clear hH0 hH2 HPK HCK hb4 hr5
 generalize u0.alloc (.cells (clC Dg.Cl0) 55) = w5 at *
 generalize u0.heap.size = b5 at *
 have hpg := hp5; have hrc := hc5; have hb3 := hb5
 clear hp5 hc5 hb5 hwB0
 obtain ⟨qq, hq⟩ : ∃ qq, Dg.getC pg ⟨c.after.seat, c.after.count⟩ = qq := ⟨_, rfl⟩
 have HQ := hide hq
 clear hq
 go_upto_region 10 with fail
 have hszd : bc < w5.drew.heap.size := hsz
 refine wp_region_noPanic ?_
 refine wp_region_L (Below w5.drew.heap.size w5.drew) 13 hmx ?_
 have hb4 := hb3.drew
 have hdr := (Below.refl w5.heap.size w5).drew
 have hpg' := hpg.below hdr
 have hrc' := iNext hrc hdr
 have HPK := hide (fun X (hX : Below w5.drew.heap.size w5.drew X) => hpg'.below hX)
 have HCK := hide (fun X (hX : Below w5.drew.heap.size w5.drew X) => iNext hrc' hX)
 have hH0 := Below.refl w5.drew.heap.size w5.drew
 clear hpg hrc hb3 hpg' hrc' hdr
 generalize w5.drew = u0 at *
 refine tU 0 15 hH0 rfl ?_
 refine tU 1 15 hH0 rfl ?_
 refine tU 2 15 hH0 rfl ?_
 refine tU 3 15 hH0 rfl ?_ (by intro wS hS; have f0 : wS.cell? ⟨p, 0, none⟩ = some (.map (some m)) := cell_of_row _ _ 0 _ _ _ (HPK.out _ hS).row; go_simp; (try with_reducible rfl))
 refine tU 4 15 hH0 rfl ?_
 refine tkY 5 15 ?_ rfl ?_ hH0 ?_
 rotate_left
 ·intro wS hS; have f0 : wS.cell? ⟨bc, 2, none⟩ = some (.int .i64 c.after.seat) := cell_of_row _ _ 2 _ _ _ (HCK.out _ hS)
  have f1 : wS.cell? ⟨bc, 3, none⟩ = some (.int .i64 c.after.count) := cell_of_row _ _ 3 _ _ _ (HCK.out _ hS); go_simp; (try with_reducible rfl)
 simp only [Act.put, pu]
 refine tkY 6 15 ?_ rfl ?_ hH0 ?_
 rotate_left
 ·intro wS hS; have f0 := look_page (HPK.out _ hS).map HSA.out
  rw [HQ.out] at f0; go_simp; (try with_reducible rfl)
 simp only [Act.put, pu]
 refine tU 7 15 hH0 rfl ?_
 refine tU 8 15 hH0 rfl ?_
 refine tU 9 15 hH0 rfl ?_
 refine oY 10 fun K hK => ?_
 go_simp
 have hH1 := hH0.alloc (Nat.le_refl _) (.cells Rq17 55)
 refine hK.out _ _ (Or.inr hH1) ?_
 clear hK K
 try simp only [Act.put, pu]
 refine oY 11 fun K hK => ?_
 have hst := store_newcl u0 (qq.getD Dg.Cl0)
 go_simp
 have hH2 := hH0.alloc (Nat.le_refl _) (.cells (clC (qq.getD Dg.Cl0)) 55)
 have hr5 := heap_alloc_new u0 (.cells (clC (qq.getD Dg.Cl0)) 55)
 refine hK.out _ _ (Or.inr hH2) ?_
 clear hK K hst hH1
 try simp only [Act.put, pu]
 refine tU 12 15 hH2 rfl ?_
 refine dnY ?_
 have hb5 := hb4.alloc (Nat.le_of_lt hszd) (.cells (clC (qq.getD Dg.Cl0)) 55)
 have hp5 := HPK.out _ hH2
 have hc5 := HCK.out _ hH2
 clear hH0 hH2 HPK HCK hb4 hr5 hsz hszd
 generalize u0.alloc (.cells (clC (qq.getD Dg.Cl0)) 55) = w6 at *
 generalize u0.heap.size = b9 at *
 have l2 : w6.cell? ⟨bc, 2, none⟩ = some (.int .i64 c.after.seat) := cell_of_row _ _ 2 _ _ _ hc5
 have l3 : w6.cell? ⟨bc, 3, none⟩ = some (.int .i64 c.after.count) := cell_of_row _ _ 3 _ _ _ hc5
 have l19 : w6.cell? ⟨bc, 19, none⟩ = some (.bool c.gone) := cell_of_row _ _ 19 _ _ _ hc5
 have lp : w6.cell? ⟨p, 0, none⟩ = some (.map (some m)) := cell_of_row _ _ 0 _ _ _ hp5.row
 have hz : qq = none → c.after.seat = 0 ∧ c.after.count = 0 := fun e => by
  have h1 : Dg.getC pg c.after = none := HQ.out.trans e
  have h2 : c.after = Dg.Sp0 := Decidable.by_contra fun h => hup ⟨h1, h⟩
  rw [h2]
  exact ⟨rfl, rfl⟩
 have HZ := hide hz
 clear hz hup
 have HF := hide hf
 have HP5 := hide hp5; have HB5 := hide hb5; have HC5 := hide hc5
 have HW := hide (show bc ≤ w6.heap.size by have := lt_of_block hc5; omega)
 clear hp5 hb5 hc5 hf
 cases qq with
 | some x =>
  by_cases hg : c.gone = true
  ·rw [hg] at l19
   go_upto_region 15 with fail
   clear l2 l3 l19 lp
   refine wp_region_noPanic ?_
   refine wp_region_L (Below w6.drew.heap.size w6.drew) 7 hmx ?_
   have hdr := (Below.refl w6.heap.size w6).drew
   have hbz := (HB5.out).drew
   have hp8 := (HP5.out).below hdr
   have hc8 := iNext (HC5.out) hdr
   have HPK := hide (fun X (hX : Below w6.drew.heap.size w6.drew X) => hp8.below hX)
   have HCK := hide (fun X (hX : Below w6.drew.heap.size w6.drew X) => iNext hc8 hX)
   have hH0 := Below.refl w6.drew.heap.size w6.drew
   clear hdr hp8 hc8
   generalize w6.drew = u1 at *
   refine tU 0 10 hH0 rfl ?_
   refine tU 1 10 hH0 rfl ?_
   refine tU 2 10 hH0 rfl ?_
   refine tU 3 10 hH0 rfl ?_ (by intro wS hS; have f0 : wS.cell? ⟨p, 0, none⟩ = some (.map (some m)) := cell_of_row _ _ 0 _ _ _ (HPK.out _ hS).row; go_simp; (try with_reducible rfl))
   refine tU 4 10 hH0 rfl ?_
   refine tkY 5 10 ?_ rfl ?_ hH0 ?_
   rotate_left
   ·intro wS hS; have f0 : wS.cell? ⟨bc, 0, none⟩ = some (.int .i64 c.id.seat) := cell_of_row _ _ 0 _ _ _ (HCK.out _ hS)
    have f1 : wS.cell? ⟨bc, 1, none⟩ = some (.int .i64 c.id.count) := cell_of_row _ _ 1 _ _ _ (HCK.out _ hS); go_simp; (try with_reducible rfl)
   simp only [Act.put, pu]
   refine tkV 6 10 (.agg (clC c)) rfl (by exact yl_cl (.tmp 3) rfl (by rfl) (by rfl) (fun X hX => HCK.out X hX)) hH0 ?_
   simp only [Act.put, pu]
   refine oY 7 fun K hK => ?_
   obtain ⟨u2, hrun, hmap, hgr⟩ := lay_new (HPK.out _ hH0).map hl HSP.out HGO.out
   go_simp
   refine hK.out _ _ (Or.inl rfl) ?_
   clear hK K hrun
   try simp only [Act.put, pu]
   refine dnY ?_
   go_wp2
   go_ret
   refine ⟨rfl, ⟨?_, hmap⟩, ?_⟩
   ·exact (hgr.block p (HPK.out _ hH0).lt (fun e => (HPK.out _ hH0).ne (by injection e))).trans (HPK.out _ hH0).row
   ·rw [← hbc] at hbz
    exact grown_after hbz hgr
  ·have hg' : c.gone = false := by cases h9 : c.gone with
    | true => exact absurd h9 hg
    | false => rfl
   rw [hg'] at l19
   have hlt : Dg.openN pg < 64 := by
    have := HF.out
    rw [hg'] at this
    simp at this
    omega
   go_upto_region 15 with (refine (open_of m pg hl _ HP5.out.map).mono ?_; rintro e w8 ⟨rfl, hb8⟩)
   clear l2 l3 l19 lp
   refine wp_region_noPanic ?_
   refine wp_region_L (Below w8.drew.heap.size w8.drew) 7 hmx ?_
   have hdr := (Below.refl w8.heap.size w8).drew
   have hbz := (HB5.out.trans (hb8.mono HW.out)).drew
   have hp8 := (HP5.out.below hb8).below hdr
   have hc8 := iNext (iNext HC5.out hb8) hdr
   have HPK := hide (fun X (hX : Below w8.drew.heap.size w8.drew X) => hp8.below hX)
   have HCK := hide (fun X (hX : Below w8.drew.heap.size w8.drew X) => iNext hc8 hX)
   have hH0 := Below.refl w8.drew.heap.size w8.drew
   clear hdr hp8 hc8
   generalize w8.drew = u1 at *
   refine tU 0 10 hH0 rfl ?_
   refine tU 1 10 hH0 rfl ?_
   refine tU 2 10 hH0 rfl ?_
   refine tU 3 10 hH0 rfl ?_ (by intro wS hS; have f0 : wS.cell? ⟨p, 0, none⟩ = some (.map (some m)) := cell_of_row _ _ 0 _ _ _ (HPK.out _ hS).row; go_simp; (try with_reducible rfl))
   refine tU 4 10 hH0 rfl ?_
   refine tkY 5 10 ?_ rfl ?_ hH0 ?_
   rotate_left
   ·intro wS hS; have f0 : wS.cell? ⟨bc, 0, none⟩ = some (.int .i64 c.id.seat) := cell_of_row _ _ 0 _ _ _ (HCK.out _ hS)
    have f1 : wS.cell? ⟨bc, 1, none⟩ = some (.int .i64 c.id.count) := cell_of_row _ _ 1 _ _ _ (HCK.out _ hS); go_simp; (try with_reducible rfl)
   simp only [Act.put, pu]
   refine tkV 6 10 (.agg (clC c)) rfl (by exact yl_cl (.tmp 3) rfl (by rfl) (by rfl) (fun X hX => HCK.out X hX)) hH0 ?_
   simp only [Act.put, pu]
   refine oY 7 fun K hK => ?_
   obtain ⟨u2, hrun, hmap, hgr⟩ := lay_new (HPK.out _ hH0).map hl HSP.out HGO.out
   go_simp
   refine hK.out _ _ (Or.inl rfl) ?_
   clear hK K hrun
   try simp only [Act.put, pu]
   refine dnY ?_
   go_wp2
   go_ret
   refine ⟨rfl, ⟨?_, hmap⟩, ?_⟩
   ·exact (hgr.block p (HPK.out _ hH0).lt (fun e => (HPK.out _ hH0).ne (by injection e))).trans (HPK.out _ hH0).row
   ·rw [← hbc] at hbz
    exact grown_after hbz hgr
 | none =>
  obtain ⟨z1, z2⟩ := HZ.out rfl
  rw [z1] at l2
  rw [z2] at l3
  by_cases hg : c.gone = true
  ·rw [hg] at l19
   go_upto_region 15 with fail
   clear l2 l3 l19 lp
   refine wp_region_noPanic ?_
   refine wp_region_L (Below w6.drew.heap.size w6.drew) 7 hmx ?_
   have hdr := (Below.refl w6.heap.size w6).drew
   have hbz := (HB5.out).drew
   have hp8 := (HP5.out).below hdr
   have hc8 := iNext (HC5.out) hdr
   have HPK := hide (fun X (hX : Below w6.drew.heap.size w6.drew X) => hp8.below hX)
   have HCK := hide (fun X (hX : Below w6.drew.heap.size w6.drew X) => iNext hc8 hX)
   have hH0 := Below.refl w6.drew.heap.size w6.drew
   clear hdr hp8 hc8
   generalize w6.drew = u1 at *
   refine tU 0 10 hH0 rfl ?_
   refine tU 1 10 hH0 rfl ?_
   refine tU 2 10 hH0 rfl ?_
   refine tU 3 10 hH0 rfl ?_ (by intro wS hS; have f0 : wS.cell? ⟨p, 0, none⟩ = some (.map (some m)) := cell_of_row _ _ 0 _ _ _ (HPK.out _ hS).row; go_simp; (try with_reducible rfl))
   refine tU 4 10 hH0 rfl ?_
   refine tkY 5 10 ?_ rfl ?_ hH0 ?_
   rotate_left
   ·intro wS hS; have f0 : wS.cell? ⟨bc, 0, none⟩ = some (.int .i64 c.id.seat) := cell_of_row _ _ 0 _ _ _ (HCK.out _ hS)
    have f1 : wS.cell? ⟨bc, 1, none⟩ = some (.int .i64 c.id.count) := cell_of_row _ _ 1 _ _ _ (HCK.out _ hS); go_simp; (try with_reducible rfl)
   simp only [Act.put, pu]
   refine tkV 6 10 (.agg (clC c)) rfl (by exact yl_cl (.tmp 3) rfl (by rfl) (by rfl) (fun X hX => HCK.out X hX)) hH0 ?_
   simp only [Act.put, pu]
   refine oY 7 fun K hK => ?_
   obtain ⟨u2, hrun, hmap, hgr⟩ := lay_new (HPK.out _ hH0).map hl HSP.out HGO.out
   go_simp
   refine hK.out _ _ (Or.inl rfl) ?_
   clear hK K hrun
   try simp only [Act.put, pu]
   refine dnY ?_
   go_wp2
   go_ret
   refine ⟨rfl, ⟨?_, hmap⟩, ?_⟩
   ·exact (hgr.block p (HPK.out _ hH0).lt (fun e => (HPK.out _ hH0).ne (by injection e))).trans (HPK.out _ hH0).row
   ·rw [← hbc] at hbz
    exact grown_after hbz hgr
  ·have hg' : c.gone = false := by cases h9 : c.gone with
    | true => exact absurd h9 hg
    | false => rfl
   rw [hg'] at l19
   have hlt : Dg.openN pg < 64 := by
    have := HF.out
    rw [hg'] at this
    simp at this
    omega
   go_upto_region 15 with (refine (open_of m pg hl _ HP5.out.map).mono ?_; rintro e w8 ⟨rfl, hb8⟩)
   clear l2 l3 l19 lp
   refine wp_region_noPanic ?_
   refine wp_region_L (Below w8.drew.heap.size w8.drew) 7 hmx ?_
   have hdr := (Below.refl w8.heap.size w8).drew
   have hbz := (HB5.out.trans (hb8.mono HW.out)).drew
   have hp8 := (HP5.out.below hb8).below hdr
   have hc8 := iNext (iNext HC5.out hb8) hdr
   have HPK := hide (fun X (hX : Below w8.drew.heap.size w8.drew X) => hp8.below hX)
   have HCK := hide (fun X (hX : Below w8.drew.heap.size w8.drew X) => iNext hc8 hX)
   have hH0 := Below.refl w8.drew.heap.size w8.drew
   clear hdr hp8 hc8
   generalize w8.drew = u1 at *
   refine tU 0 10 hH0 rfl ?_
   refine tU 1 10 hH0 rfl ?_
   refine tU 2 10 hH0 rfl ?_
   refine tU 3 10 hH0 rfl ?_ (by intro wS hS; have f0 : wS.cell? ⟨p, 0, none⟩ = some (.map (some m)) := cell_of_row _ _ 0 _ _ _ (HPK.out _ hS).row; go_simp; (try with_reducible rfl))
   refine tU 4 10 hH0 rfl ?_
   refine tkY 5 10 ?_ rfl ?_ hH0 ?_
   rotate_left
   ·intro wS hS; have f0 : wS.cell? ⟨bc, 0, none⟩ = some (.int .i64 c.id.seat) := cell_of_row _ _ 0 _ _ _ (HCK.out _ hS)
    have f1 : wS.cell? ⟨bc, 1, none⟩ = some (.int .i64 c.id.count) := cell_of_row _ _ 1 _ _ _ (HCK.out _ hS); go_simp; (try with_reducible rfl)
   simp only [Act.put, pu]
   refine tkV 6 10 (.agg (clC c)) rfl (by exact yl_cl (.tmp 3) rfl (by rfl) (by rfl) (fun X hX => HCK.out X hX)) hH0 ?_
   simp only [Act.put, pu]
   refine oY 7 fun K hK => ?_
   obtain ⟨u2, hrun, hmap, hgr⟩ := lay_new (HPK.out _ hH0).map hl HSP.out HGO.out
   go_simp
   refine hK.out _ _ (Or.inl rfl) ?_
   clear hK K hrun
   try simp only [Act.put, pu]
   refine dnY ?_
   go_wp2
   go_ret
   refine ⟨rfl, ⟨?_, hmap⟩, ?_⟩
   ·exact (hgr.block p (HPK.out _ hH0).lt (fun e => (HPK.out _ hH0).ne (by injection e))).trans (HPK.out _ hH0).row
   ·rw [← hbc] at hbz
    exact grown_after hbz hgr
theorem pagePut_of (p m : Nat) (pg : List Dg.Cl) (hl : pg.length ≤ 100000) (c : Dg.Cl) (w : World) (h : PageAt w p m pg) :
  Calls Tryz.prog 31 #[.pointer (some ⟨p, 0, none⟩), .agg (clC c)] w fun e w' => e = .returned (.int .i64 (Dg.putC pg c).2) ∧ PageAt w' p m (Dg.putC pg c).1 ∧ w.grownBy w' (some m) := by
 unfold Dg.putC
 by_cases hok : Dg.clOk c = false
 ·rw [if_pos hok]
  refine (put_bad p c hok w).mono ?_
  rintro e w' ⟨rfl, hb⟩
  exact ⟨rfl, h.below hb, grown_of_below hb _⟩
 have hok' : Dg.clOk c = true := by cases h9 : Dg.clOk c with
  | true => rfl
  | false => exact absurd h9 hok
 rw [if_neg hok]
 cases hg : Dg.getC pg c.id with
 | some o =>
  show Calls _ _ _ _ fun e w' => e = .returned (.int .i64 (if o.after = c.after ∧ o.patch = c.patch then _ else _ : List Dg.Cl × Int).2) ∧ PageAt w' p m (if o.after = c.after ∧ o.patch = c.patch then _ else _ : List Dg.Cl × Int).1 ∧ _
  by_cases hs : o.after = c.after ∧ o.patch = c.patch
  ·rw [if_pos hs]
   exact put_old p m pg hl c o hok' hg true (decide_eq_true hs) 0 rfl _ rfl w h
  ·rw [if_neg hs]
   exact put_old p m pg hl c o hok' hg false (decide_eq_false hs) 9 rfl _ rfl w h
 | none =>
  show Calls _ _ _ _ fun e w' => e = .returned (.int .i64 (if Dg.getC pg c.after = none ∧ c.after ≠ Dg.Sp0 then _ else _ : List Dg.Cl × Int).2) ∧ PageAt w' p m (if Dg.getC pg c.after = none ∧ c.after ≠ Dg.Sp0 then _ else _ : List Dg.Cl × Int).1 ∧ _
  by_cases hn : Dg.getC pg c.after = none ∧ c.after ≠ Dg.Sp0
  ·rw [if_pos hn]
   exact put_none p m pg c hok' hg hn w h
  rw [if_neg hn]
  by_cases hf : c.gone = false ∧ 64 ≤ Dg.openN pg
  ·rw [if_pos hf]
   exact put_full p m pg hl c hok' hg hn hf.1 hf.2 w h
  ·rw [if_neg hf]
   exact put_ins p m pg hl c hok' hg hn hf w h
attribute [-go_sem] Instr.storeAt in
theorem pageNew_of (w : World) : Calls Tryz.prog 30 #[] w fun e w' => ∃ p m, e = .returned (.pointer (some ⟨p, 0, none⟩)) ∧ w.heap.size ≤ p ∧ w.heap.size ≤ m ∧ PageAt w' p m [] ∧ Below w.heap.size w w' := by
 go_enter func30, ntmps30
 have hmm := @run_makeMap Tryz.prog
 go_wp2
 go_ret
 refine ⟨w.heap.size + 1, w.heap.size, rfl, by omega, by omega, ⟨?_, _, World.ownsMap_made w _ _ _ |>.alloc _, PgD.nil⟩, ?_⟩
 ·have := heap_alloc_new (w.alloc (.map #[] 0)) (.cells #[.map (some w.heap.size)] 132)
  rw [show (w.alloc (.map #[] 0)).heap.size = w.heap.size + 1 by simp] at this
  exact this
 ·exact ((Below.refl w.heap.size w).alloc (Nat.le_refl _) _).alloc (by simp) _
def dropP (pg : List Dg.Cl) (d : Dg.Sp) : List Dg.Cl × Int := match Dg.getC pg d with
 | none => (pg, 11)
 | some x => (Dg.dropC pg x, 0)
attribute [-go_sem] Instr.storeAt in
theorem pageDrop_aux (p m : Nat) (pg : List Dg.Cl) (hl : pg.length ≤ 100000) (a b : Int) (hs : SpW ⟨a, b⟩) (qq : Option Dg.Cl) (hq : Dg.getC pg ⟨a, b⟩ = qq) (k : Int) (pg' : List Dg.Cl) (hr : dropP pg ⟨a, b⟩ = (pg', k)) (w : World) (h : PageAt w p m pg) :
  Calls Tryz.prog 74 #[.pointer (some ⟨p, 0, none⟩), .agg #[.int .i64 a, .int .i64 b]] w fun e w' => e = .returned (.int .i64 k) ∧ PageAt w' p m pg' ∧ w.grownBy w' (some m) := by
 have hmx := hmxQ
 have HSP := hide hs; have HGO := hide hq; have HRR := hide hr
 have r1 := heap_alloc_new w (.cells #[.int .i64 a, .int .i64 b] 49)
 have hb1 := nwB w (.cells #[.int .i64 a, .int .i64 b] 49)
 have hp1 := h.below hb1
 clear hs hq hr h
 go_enter func74, ntmps74
 go_upto_region 3 with fail
 have hwB := lt_of_block r1
 generalize w.alloc (.cells #[.int .i64 a, .int .i64 b] 49) = w2 at *
 generalize hbc : w.heap.size = bd at *
 refine wp_region_noPanic ?_
 refine wp_region_L (Below w2.drew.heap.size w2.drew) 13 hmx ?_
 have hb4 := hb1.drew
 have hdr := (Below.refl w2.heap.size w2).drew
 have hpg' := hp1.below hdr
 have hrc' := iNext r1 hdr
 have HPK := hide (fun X (hX : Below w2.drew.heap.size w2.drew X) => hpg'.below hX)
 have HCK := hide (fun X (hX : Below w2.drew.heap.size w2.drew X) => iNext hrc' hX)
 have hH0 := Below.refl w2.drew.heap.size w2.drew
 have hwB0 : bd < w2.drew.heap.size := hwB
 clear hp1 r1 hb1 hpg' hrc' hdr hwB
 generalize w2.drew = u0 at *
 refine tU 0 14 hH0 rfl ?_
 refine tU 1 14 hH0 rfl ?_
 refine tU 2 14 hH0 rfl ?_
 refine tU 3 14 hH0 rfl ?_ (by intro wS hS; have f0 : wS.cell? ⟨p, 0, none⟩ = some (.map (some m)) := cell_of_row _ _ 0 _ _ _ (HPK.out _ hS).row; go_simp; (try with_reducible rfl))
 refine tkY 4 14 ?_ rfl ?_ hH0 ?_
 rotate_left
 ·intro wS hS; have f0 : wS.cell? ⟨bd, 0, none⟩ = some (.int .i64 a) := cell_of_row _ _ 0 _ _ _ (HCK.out _ hS)
  have f1 : wS.cell? ⟨bd, 1, none⟩ = some (.int .i64 b) := cell_of_row _ _ 1 _ _ _ (HCK.out _ hS); go_simp; (try with_reducible rfl)
 simp only [Act.put, pu]
 refine tkY 5 14 ?_ rfl ?_ hH0 ?_
 rotate_left
 ·intro wS hS; have f0 := look_page (HPK.out _ hS).map HSP.out
  rw [HGO.out] at f0; go_simp; (try with_reducible rfl)
 simp only [Act.put, pu]
 refine tU 6 14 hH0 rfl ?_
 refine tU 7 14 hH0 rfl ?_
 refine tU 8 14 hH0 rfl ?_
 refine oY 9 fun K hK => ?_
 go_simp
 have hH1 := hH0.alloc (Nat.le_refl _) (.cells Rq17 55)
 refine hK.out _ _ (Or.inr hH1) ?_
 clear hK K
 try simp only [Act.put, pu]
 refine oY 10 fun K hK => ?_
 have hst := store_newcl u0 (qq.getD Dg.Cl0)
 go_simp
 have hH2 := hH0.alloc (Nat.le_refl _) (.cells (clC (qq.getD Dg.Cl0)) 55)
 have hr5 := heap_alloc_new u0 (.cells (clC (qq.getD Dg.Cl0)) 55)
 refine hK.out _ _ (Or.inr hH2) ?_
 clear hK K hst hH1
 try simp only [Act.put, pu]
 refine tU 11 14 hH2 rfl ?_
 refine dnY ?_
 have hb5 := hb4.alloc (Nat.le_of_lt hwB0) (.cells (clC (qq.getD Dg.Cl0)) 55)
 have hp5 := HPK.out _ hH2
 have hc5 := HCK.out _ hH2
 have hne : bd ≠ u0.heap.size := by omega
 have hle : bd ≤ u0.heap.size := by omega
 clear hH0 hH2 HPK HCK hb4 hwB0
 generalize u0.alloc (.cells (clC (qq.getD Dg.Cl0)) 55) = w6 at *
 generalize u0.heap.size = b5 at *
 cases qq with
 | none =>
  have hk : (pg, (11 : Int)) = (pg', k) := by rw [← HRR.out]; unfold dropP; rw [HGO.out]
  have hk1 := congrArg Prod.fst hk
  have hk2 := congrArg Prod.snd hk
  have HK := hide hk1; have HK2 := hide hk2; have HP5 := hide hp5; have HB5 := hide hb5
  clear hk hk1 hk2 hp5 hb5 hc5 hr5
  go_wp2
  go_ret
  exact ⟨congrArg (fun n => Ending.returned (.int .i64 n)) HK2.out, HK.out ▸ HP5.out, grown_of_below (by rw [hbc]; exact HB5.out) _⟩
 | some x =>
  have hk : (Dg.dropC pg x, (0 : Int)) = (pg', k) := by rw [← HRR.out]; unfold dropP; rw [HGO.out]
  have hk1 := congrArg Prod.fst hk
  have hk2 := congrArg Prod.snd hk
  have HK := hide hk1; have HK2 := hide hk2
  clear hk hk1 hk2
  have hr5' : w6.heap[b5]? = some (.cells (clC x) 55 (0, 0)) := hr5
  have hst := store_gone hr5' true
  have q5 := setRow_heap w6 b5 _ (clC { x with gone := true }) _ _ hr5'
  have qc := (setRow_other w6 b5 bd (clC { x with gone := true }) hne).trans hc5
  have hpne : p ≠ b5 := fun e => by
   have h1 := hp5.row
   rw [e, hr5'] at h1
   injection h1 with h1
   injection h1 with h1 _
   have := congrArg Array.size h1
   exact absurd (show (20 : Nat) = 1 from this) (by decide)
  have hmne : m ≠ b5 := fun e => by
   obtain ⟨D, ⟨es, clock, hb, _⟩, _⟩ := hp5.map
   rw [e, hr5'] at hb
   cases hb
  have qp : PageAt (w6.setRow b5 (clC { x with gone := true })) p m pg := ⟨(setRow_other w6 b5 p _ hpne).trans hp5.row, hp5.map.same (setRow_other w6 b5 m _ hmne)⟩
  have qb := below_setRow hb5 hle (g := b5) (clC { x with gone := true })
  have HQ5 := hide q5; have HQC := hide qc; have HQP := hide qp; have HQB := hide qb
  clear q5 qc qp qb hr5 hr5' hp5 hc5 hb5
  go_upto_region 7 with fail
  clear hst
  generalize w6.setRow b5 (clC { x with gone := true }) = w7 at *
  refine wp_region_noPanic ?_
  refine wp_region_L (Below w7.drew.heap.size w7.drew) 6 hmx ?_
  have hdr := (Below.refl w7.heap.size w7).drew
  have hbz := HQB.out.drew
  have hp8 := HQP.out.below hdr
  have hc8 := iNext HQC.out hdr
  have hn8 := iNext HQ5.out hdr
  have HPK := hide (fun X (hX : Below w7.drew.heap.size w7.drew X) => hp8.below hX)
  have HCK := hide (fun X (hX : Below w7.drew.heap.size w7.drew X) => iNext hc8 hX)
  have HNK := hide (fun X (hX : Below w7.drew.heap.size w7.drew X) => iNext hn8 hX)
  have hH0 := Below.refl w7.drew.heap.size w7.drew
  clear hdr hp8 hc8 hn8
  generalize w7.drew = u1 at *
  refine tU 0 9 hH0 rfl ?_
  refine tU 1 9 hH0 rfl ?_
  refine tU 2 9 hH0 rfl ?_
  refine tU 3 9 hH0 rfl ?_ (by intro wS hS; have f0 : wS.cell? ⟨p, 0, none⟩ = some (.map (some m)) := cell_of_row _ _ 0 _ _ _ (HPK.out _ hS).row; go_simp; (try with_reducible rfl))
  refine tkY 4 9 ?_ rfl ?_ hH0 ?_
  rotate_left
  ·intro wS hS; have f0 : wS.cell? ⟨bd, 0, none⟩ = some (.int .i64 a) := cell_of_row _ _ 0 _ _ _ (HCK.out _ hS)
   have f1 : wS.cell? ⟨bd, 1, none⟩ = some (.int .i64 b) := cell_of_row _ _ 1 _ _ _ (HCK.out _ hS); go_simp; (try with_reducible rfl)
  simp only [Act.put, pu]
  refine tkV 5 9 (.agg (clC ({ x with gone := true } : Dg.Cl))) rfl (by exact yl_cl (.tmp 5) rfl (by rfl) (by rfl) (fun X hX => HNK.out X hX)) hH0 ?_
  simp only [Act.put, pu]
  refine oY 6 fun K hK => ?_
  obtain ⟨u2, hrun, hmap, hgr⟩ := lay_set (c := { x with gone := true }) (HPK.out _ hH0).map hl (Dg.getC_some HGO.out).1 rfl ⟨a, b⟩ (Dg.getC_some HGO.out).2.symm
  go_simp
  refine hK.out _ _ (Or.inl rfl) ?_
  clear hK K hrun
  try simp only [Act.put, pu]
  refine dnY ?_
  go_wp2
  go_ret
  refine ⟨congrArg (fun n => Ending.returned (.int .i64 n)) HK2.out, ⟨?_, ?_⟩, ?_⟩
  ·exact (hgr.block p (HPK.out _ hH0).lt (fun e => (HPK.out _ hH0).ne (by injection e))).trans (HPK.out _ hH0).row
  ·rw [← HK.out]
   exact hmap
  ·rw [← hbc] at hbz
   exact grown_after hbz hgr
theorem pageDrop_of (p m : Nat) (pg : List Dg.Cl) (hl : pg.length ≤ 100000) (a b : Int) (hs : SpW ⟨a, b⟩) (w : World) (h : PageAt w p m pg) :
  Calls Tryz.prog 74 #[.pointer (some ⟨p, 0, none⟩), .agg #[.int .i64 a, .int .i64 b]] w fun e w' => e = .returned (.int .i64 (dropP pg ⟨a, b⟩).2) ∧ PageAt w' p m (dropP pg ⟨a, b⟩).1 ∧ w.grownBy w' (some m) :=
 pageDrop_aux p m pg hl a b hs _ rfl _ _ rfl w h
end Go.Proofs.YtkpbofnnnihbeaaGreat
namespace Go.Proofs.YtkpbofnnnihbeaaGreat
open Go Go.RowKit Go.Sort Go.Maps Go.WideElems Rw Tryz
section
open Go.ChangeMaps (setBlock heap_setBlock_same heap_setBlock_other)
noncomputable def rNil : Value → Option (DataW Unit × List MemPlace) := fun _ => some (.nil, [])
noncomputable def kidD (es : Array MapEntry) : DataW Unit := .map ((es.toList.map (rg Tryz.prog 49 rNil)).foldr DataW.insert [])
def aftL (V : List Dg.Cl) (d : Dg.Sp) : List Dg.Cl := V.filter fun c => decide (c.after = d)
structure KidF (w : World) (B : Nat) (V : List Dg.Cl) (es : Array MapEntry) (clock : Nat) : Prop where
 fit : Fit Tryz.prog 49 rNil es clock
 size : es.size ≤ V.length
 rows : ∀ x ∈ es.toList, ∃ d l, SpW d ∧ x.key = spV d ∧ l.Perm (aftL V d) ∧ Own1 clL 55 w B x.val l
 has : ∀ c ∈ V, Maps.has (kidD es) (spK c.after) = true
 apart : ∀ x ∈ es.toList, ∀ y ∈ es.toList, x.key ≠ y.key → ∀ j, x.val.ownBlock = some j → y.val.ownBlock ≠ some j
def KidAt (w : World) (mb B : Nat) (V : List Dg.Cl) : Prop := ∃ es clock, w.heap[mb]? = some (.map es clock) ∧ KidF w B V es clock
theorem lawSpK : WideMaps.KeyLaw Tryz.prog 49 := deep_law (m := 2) (by omega) (by kernel_rfl) (by kernel_rfl) (by kernel_rfl)
theorem spV_inj {a b : Dg.Sp} (h : spV a = spV b) : a = b := by
 unfold spV at h
 injection h with h
 have h3 := congrArg Array.toList h
 simp only [List.cons.injEq, Value.int.injEq, true_and, and_true] at h3
 cases a; cases b
 simp_all
theorem KidAt.nil (w : World) (B : Nat) : KidAt (w.alloc (.map #[] 0)) w.heap.size B [] := by
 refine ⟨#[], 0, (MapKept.heap_alloc w _).1, ⟨?_, Nat.le_refl _, fun x hx => ?_, fun c hc => (by cases hc), fun x hx => ?_⟩⟩
 ·obtain ⟨es, clock, hb, F, hs, e⟩ := World.ownsMap_made w Tryz.prog 49 rNil
  have h0 : es = #[] := Array.eq_empty_of_size_eq_zero (by omega)
  have := (MapKept.heap_alloc w (.map #[] 0)).1
  rw [this] at hb
  injection hb with hb
  injection hb with h1 h2
  rw [h1, h2]
  exact F
 ·simp at hx
 ·simp at hx
theorem setBlock_grown {w : World} {b : Nat} {es : Array MapEntry} {clock : Nat} (hb : w.heap[b]? = some (.map es clock)) (o : Obj) : w.grownBy (setBlock w b o) (some b) ∧ (setBlock w b o).heap.size = w.heap.size :=
 ⟨⟨rfl, rfl, rfl, by simp [setBlock], fun i _ hi => heap_setBlock_other hb _ (fun e => hi (by rw [e]))⟩, by simp [setBlock]⟩
theorem aft_snoc (V : List Dg.Cl) (c : Dg.Cl) (d : Dg.Sp) : aftL (V ++ [c]) d = aftL V d ++ (if c.after = d then [c] else []) := by
 unfold aftL
 rw [List.filter_append]
 congr 1
 by_cases e : c.after = d <;> simp [e]
theorem own_ne_map {w : World} {B : Nat} {v : Value} {l : List Dg.Cl} {mb : Nat} {es : Array MapEntry} {clock : Nat} (h : Own1 clL 55 w B v l) (hb : w.heap[mb]? = some (.map es clock)) : v.ownBlock ≠ some mb := by
 rcases h.2 with ⟨rfl, _⟩ | ⟨g, cap, cur, rfl, _, hg, _⟩
 ·intro e; cases e
 ·intro e
  injection e with e
  have e : g = mb := e
  rw [e, hb] at hg
  cases hg
theorem KidAt.entry {w : World} {mb B : Nat} {V : List Dg.Cl} (h : KidAt w mb B V) (hV : V.length ≤ 100000) {c : Dg.Cl} (hs : SpW c.after) :
  ∃ (v0 : Value) (st : Nat) (w1 : World) (l : List Dg.Cl), (Instr.mapEntry 137 (.map (some mb)) (.agg #[.int .i64 c.after.seat, .int .i64 c.after.count])).run Tryz.prog w = .ok (.tuple #[v0, goInt st]) w1 ∧
   w.grownBy w1 (some mb) ∧ w1.heap.size = w.heap.size ∧ l.Perm (aftL V c.after) ∧ Own1 clL 55 w1 B v0 l ∧
   ∀ (w2 : World) (v' : Value), w1.grownBy w2 v0.ownBlock → Own1 clL 55 w2 B v' (l ++ [c]) → (v'.ownBlock = v0.ownBlock ∨ ∃ g, v'.ownBlock = some g ∧ w1.heap.size ≤ g) →
    ∃ w3, (Instr.entryStore 137 (.map (some mb)) (goInt st) v').run Tryz.prog w2 = .ok () w3 ∧ KidAt w3 mb B (V ++ [c]) ∧ w2.grownBy w3 (some mb) := by
 obtain ⟨es, clock, hb, hF⟩ := h
 have hkey := sp_key hs
 have hz : ∀ u : World, (zeroValue 30).run Tryz.prog u = .ok (.slice none 0 0) u := fun u => by kernel_rfl
 obtain ⟨v0, st, es1, clock1, hrun, hv0, hst⟩ := entry_then_store lawSpK underlying137 hz hb hF.fit hkey
 have hg1 := setBlock_grown hb (.map es1 clock1)
 have hb1 := heap_setBlock_same hb (.map es1 clock1)
 have hkeep : ∀ {v : Value} {l : List Dg.Cl}, Own1 clL 55 w B v l → Own1 clL 55 (setBlock w mb (.map es1 clock1)) B v l := fun {v l} h => World.ownsRow.kept h hg1.1 (Or.inr (own_ne_map h hb))
 obtain ⟨l, hl, hown⟩ : ∃ l, l.Perm (aftL V c.after) ∧ Own1 clL 55 w B v0 l := by
  rcases hv0 with ⟨e0, he, hk, rfl⟩ | ⟨hno, rfl⟩
  ·obtain ⟨d, l, _, hd, hp, ho⟩ := hF.rows e0 he
   obtain rfl : d = c.after := spV_inj (hd.symm.trans hk)
   exact ⟨l, hp, ho⟩
  ·refine ⟨[], ?_, Own1.nil _ _ _ _⟩
   have : aftL V c.after = [] := by
    refine List.eq_nil_iff_forall_not_mem.2 fun x hx => ?_
    obtain ⟨hx, e⟩ := List.mem_filter.1 hx
    have e := of_decide_eq_true e
    have h1 := hF.has x hx
    rw [e] at h1
    rcases fit_look false lawSp underlying137 (hz w) hb hF.fit hkey with ⟨_, _, hat⟩ | ⟨e0, y, he0, hk, _⟩
    ·have h2 := has_false_of_atKey hat
     unfold kidD at h1
     rw [h2] at h1
     cases h1
    ·exact hno e0 he0 hk
   rw [this]
 refine ⟨v0, st, _, l, hrun, hg1.1, hg1.2, hl, hkeep hown, fun w2 v' hgw hown' hloc => ?_⟩
 have hapart : ∀ x ∈ es.toList, x.key ≠ spV c.after → x.val.ownBlock = none ∨ x.val.ownBlock ≠ v0.ownBlock := fun x hx hne => by
  cases hxb : x.val.ownBlock with
  | none => exact Or.inl rfl
  | some j =>
   refine Or.inr fun e => ?_
   rcases hv0 with ⟨e0, he, hk, rfl⟩ | ⟨_, rfl⟩
   ·exact hF.apart x hx e0 he (fun e2 => hne (e2.trans hk)) j hxb e.symm
   ·cases e
 have hmb : some mb ≠ v0.ownBlock := fun e => own_ne_map hown hb e.symm
 have hmlt : mb < (setBlock w mb (.map es1 clock1)).heap.size := lt_of_block hb1
 have hb2 : w2.heap[mb]? = some (.map es1 clock1) := (hgw.block mb hmlt hmb).trans hb1
 obtain ⟨es', clock', hrun2, hup⟩ := hst w2 v' hb2
 have hroom : es.size < maxLen := by
  have := hF.size
  unfold maxLen
  omega
 obtain ⟨es2, clock2, hup2, F', hput, _, _, hwho⟩ := fit_store (R' := rNil) (val := v') lawSp underlying137 hb hF.fit hroom (fun _ _ _ _ hz => hz) hkey (yv := (.nil, [])) rfl
 have heq : setBlock w mb (.map es' clock') = setBlock w mb (.map es2 clock2) := by
  rw [hup] at hup2
  injection hup2
 have h3 := heap_setBlock_same hb (.map es' clock')
 rw [heq, heap_setBlock_same hb (.map es2 clock2)] at h3
 injection h3 with h3
 injection h3 with h3 h4
 subst h3 h4
 have hg3 := setBlock_grown hb2 (.map es2 clock2)
 have hD' : kidD es2 = (kidD es).put (spK c.after) .nil := by
  unfold kidD
  rw [hput]
  rfl
 have hold : ∀ {v : Value} {l : List Dg.Cl}, Own1 clL 55 w B v l → (v.ownBlock = none ∨ v.ownBlock ≠ v0.ownBlock) → Own1 clL 55 (setBlock w2 mb (.map es2 clock2)) B v l := fun {v l} h hne => by
  have h1 := World.ownsRow.kept (hkeep h) hgw hne
  exact World.ownsRow.kept h1 hg3.1 (Or.inr (own_ne_map h1 hb2))
 refine ⟨_, hrun2, ⟨es2, clock2, heap_setBlock_same hb2 _, ⟨F', ?_, fun x hx => ?_, fun x hx => ?_, fun x hx y hy hne j hj => ?_⟩⟩, hg3.1⟩
 ·have e1 : es2.size = ((es2.toList.map (rg Tryz.prog 49 rNil)).foldr DataW.insert []).length := by rw [length_sorted]; simp
  rw [e1, hput, List.length_append]
  unfold ChangeMaps.putKey
  rw [length_insert]
  have e2 := List.length_filter_le (ChangeMaps.notKey (spK c.after)) ((es.toList.map (rg Tryz.prog 49 rNil)).foldr DataW.insert [])
  rw [length_sorted] at e2
  simp at e2
  have := hF.size
  show _ ≤ V.length + 1
  omega
 ·rcases hwho x hx with ⟨hx, hne⟩ | ⟨hk, hv⟩
  ·obtain ⟨d, l2, hd, hk, hp, ho⟩ := hF.rows x hx
   have hdc : c.after ≠ d := fun e => hne (by rw [hk, e])
   refine ⟨d, l2, hd, hk, ?_, hold ho (hapart x hx hne)⟩
   rw [aft_snoc, if_neg hdc, List.append_nil]
   exact hp
  ·refine ⟨c.after, l ++ [c], hs, hk, ?_, ?_⟩
   ·rw [aft_snoc, if_pos rfl]
    exact hl.append_right _
   ·rw [hv]
    exact World.ownsRow.kept hown' hg3.1 (Or.inr (own_ne_map hown' hb2))
 ·rw [hD']
  by_cases e : spK x.after = spK c.after
  ·rw [e]
   exact has_put_same ⟨_, rfl⟩ (sp_lit hs) _
  ·rw [has_put_other e]
   rcases List.mem_append.1 hx with hx | hx
   ·exact hF.has x hx
   ·rw [List.mem_singleton.1 hx] at e
    exact absurd rfl e
 ·have hlt : ∀ z ∈ es.toList, ∀ i, z.val.ownBlock = some i → i < w.heap.size := fun z hz i hi => by
   obtain ⟨_, _, _, _, _, ho⟩ := hF.rows z hz
   exact (World.ownsRow.lt ho i hi).2
  have hnew : ∀ z ∈ es.toList, z.key ≠ spV c.after → ∀ i, z.val.ownBlock = some i → v'.ownBlock ≠ some i := fun z hz hzk i hi e => by
   rcases hloc with e2 | ⟨g, e2, hg⟩
   ·rcases hapart z hz hzk with e3 | e3
    ·rw [e3] at hi; cases hi
    ·exact e3 (by rw [hi, ← e2, e])
   ·rw [e2] at e
    injection e with e
    have := hlt z hz i hi
    rw [hg1.2] at hg
    omega
  rcases hwho x hx with ⟨hx, hxk⟩ | ⟨hxk, hxv⟩
  ·rcases hwho y hy with ⟨hy, hyk⟩ | ⟨hyk, hyv⟩
   ·exact hF.apart x hx y hy hne j hj
   ·rw [hyv]
    exact hnew x hx hxk j hj
  ·rcases hwho y hy with ⟨hy, hyk⟩ | ⟨hyk, hyv⟩
   ·rw [hxv] at hj
    exact fun e => hnew y hy hyk j e hj
   ·exact absurd (hxk.trans hyk.symm) hne
end
def KidOff (w : World) (mb : Nat) (O : Option Nat) : Prop := ∀ es clock, w.heap[mb]? = some (.map es clock) → ∀ x ∈ es.toList, ∀ j, x.val.ownBlock = some j → O ≠ some j
theorem KidAt.lt {w : World} {mb B : Nat} {V : List Dg.Cl} (h : KidAt w mb B V) : mb < w.heap.size := by
 obtain ⟨es, clock, hb, _⟩ := h
 exact lt_of_block hb
theorem KidAt.kept {w w' : World} {mb B : Nat} {V : List Dg.Cl} (h : KidAt w mb B V) {row : Option Nat} (hg : w.grownBy w' row) (hm : some mb ≠ row) (hr : KidOff w mb row) : KidAt w' mb B V := by
 obtain ⟨es, clock, hb, hF⟩ := h
 refine ⟨es, clock, (hg.block mb (lt_of_block hb) hm).trans hb, hF.fit, hF.size, fun x hx => ?_, hF.has, hF.apart⟩
 obtain ⟨d, l, hd, hk, hp, ho⟩ := hF.rows x hx
 refine ⟨d, l, hd, hk, hp, World.ownsRow.kept ho hg ?_⟩
 cases hxb : x.val.ownBlock with
 | none => exact Or.inl rfl
 | some j => exact Or.inr fun e => hr es clock hb x hx j hxb e.symm
theorem KidAt.below {w w' : World} {mb B : Nat} {V : List Dg.Cl} (h : KidAt w mb B V) (hb : Below w.heap.size w w') : KidAt w' mb B V :=
 h.kept (grown_of_below hb none) (by simp) fun es clock _ x _ j _ => by simp
theorem KidOff.kept {w w' : World} {mb : Nat} {O : Option Nat} (h : KidOff w mb O) {row : Option Nat} (hg : w.grownBy w' row) (hml : mb < w.heap.size) (hm : some mb ≠ row) : KidOff w' mb O := fun es clock hb => h es clock ((hg.block mb hml hm).symm.trans hb)
theorem KidAt.fresh {w : World} {mb B : Nat} {V : List Dg.Cl} (h : KidAt w mb B V) {g : Nat} (hg : w.heap.size ≤ g) : KidOff w mb (some g) := fun es clock hb x hx j hj e => by
 obtain ⟨es', clock', hb', hF⟩ := h
 rw [hb] at hb'
 injection hb' with hb'
 injection hb' with h1 _
 subst h1
 obtain ⟨_, _, _, _, _, ho⟩ := hF.rows x hx
 have := (World.ownsRow.lt ho j hj).2
 injection e with e
 omega
theorem KidOff.none (w : World) (mb : Nat) : KidOff w mb none := fun es clock _ x _ j _ => by simp
def RowOf (w : World) (mb : Nat) (d : Dg.Sp) (j : Nat) : Prop := ∃ es clock, w.heap[mb]? = some (.map es clock) ∧ (∃ x ∈ es.toList, x.key = spV d ∧ x.val.ownBlock = some j) ∧ ∀ y ∈ es.toList, y.val.ownBlock = some j → y.key = spV d
theorem KidAt.look {w : World} {mb B : Nat} {V : List Dg.Cl} (h : KidAt w mb B V) {a b : Int} (hs : SpW ⟨a, b⟩) :
  ∃ v l, (Instr.lookup 137 (.map (some mb)) (.agg #[.int .i64 a, .int .i64 b]) false).run Tryz.prog w = .ok v w ∧ l.Perm (aftL V ⟨a, b⟩) ∧ Own1 clL 55 w B v l ∧ (∀ j, v.ownBlock = some j → RowOf w mb ⟨a, b⟩ j) ∧
   ∀ (w2 : World) (l2 : List Dg.Cl), w.grownBy w2 v.ownBlock → l2.Perm l → Own1 clL 55 w2 B v l2 → KidAt w2 mb B V := by
 obtain ⟨es, clock, hb, hF⟩ := h
 have hkey := sp_key hs
 have hz : (zeroValue 30).run Tryz.prog w = .ok (.slice none 0 0) w := by kernel_rfl
 rcases fit_look false lawSp underlying137 hz hb hF.fit hkey with ⟨hrun, hno, hat⟩ | ⟨e0, y, he0, hk, hrun, _, _, _⟩
 ·refine ⟨_, [], hrun, ?_, Own1.nil _ _ _ _, fun j hj => (by cases hj), fun w2 l2 hg _ _ => ?_⟩
  ·have : aftL V ⟨a, b⟩ = [] := by
    refine List.eq_nil_iff_forall_not_mem.2 fun x hx => ?_
    obtain ⟨hx, e⟩ := List.mem_filter.1 hx
    have e := of_decide_eq_true e
    have h1 := hF.has x hx
    rw [e] at h1
    unfold kidD at h1
    rw [has_false_of_atKey hat] at h1
    cases h1
   rw [this]
  ·exact KidAt.kept ⟨es, clock, hb, hF⟩ hg (by show some mb ≠ none; simp) (KidOff.none _ _)
 ·obtain ⟨d, l, hd, hkd, hp, ho⟩ := hF.rows e0 he0
  obtain rfl : d = ⟨a, b⟩ := spV_inj (hkd.symm.trans hk)
  have hmv : e0.val.ownBlock ≠ some mb := own_ne_map ho hb
  refine ⟨_, l, hrun, hp, ho, fun j hj => ⟨es, clock, hb, ⟨e0, he0, hk, hj⟩, fun y hy hyj => ?_⟩, fun w2 l2 hg hp2 ho2 => ?_⟩
  ·by_cases e : y.key = e0.key
   ·exact e.trans hk
   ·exact absurd hj (hF.apart y hy e0 he0 e j hyj)
  refine ⟨es, clock, (hg.block mb (lt_of_block hb) (fun e => hmv e.symm)).trans hb, hF.fit, hF.size, fun x hx => ?_, hF.has, hF.apart⟩
  by_cases e : x.key = e0.key
  ·obtain ⟨d2, l3, hd2, hk2, hp3, ho3⟩ := hF.rows x hx
   obtain rfl : d2 = ⟨a, b⟩ := spV_inj (hk2.symm.trans (e.trans hk))
   have hxe : x = e0 := by
    have hst := (Go.MapKept.stamped_iff es clock).1 hF.fit.stamped
    exact entry_eq_of_key hst.2.2 hx he0 e
   subst hxe
   exact ⟨_, l2, hd, hk2, hp2.trans hp, ho2⟩
  ·obtain ⟨d2, l3, hd2, hk2, hp3, ho3⟩ := hF.rows x hx
   refine ⟨d2, l3, hd2, hk2, hp3, World.ownsRow.kept ho3 hg ?_⟩
   cases hxb : x.val.ownBlock with
   | none => exact Or.inl rfl
   | some j => exact Or.inr fun e2 => hF.apart x hx e0 he0 e j hxb e2.symm
end Go.Proofs.YtkpbofnnnihbeaaGreat
namespace Go.Proofs.YtkpbofnnnihbeaaGreat
open Go Go.RowKit Go.Sort Go.Maps Rw Tryz
def orI (x y : Int) : Int := if x = 0 then y else x
theorem or_of (b : Nat) (x y : Int) (w : World) (hx : w.cell? ⟨b, 0, none⟩ = some (.int .i64 x)) (hy : w.cell? ⟨b, 1, none⟩ = some (.int .i64 y)) :
  Calls Tryz.prog 28 #[.slice (some ⟨b, 0, none⟩) 2 2] w fun e w' => e = .returned (.int .i64 (orI x y)) ∧ w' = w := by
 go_enter func28, ntmps28
 go_wp2
 refine wp_loop_rounds 3 ?_
 rw [rounds_succ]
 go_wp2
 ·rename_i h
  have h0 : x ≠ 0 := by simpa using h
  go_ret
  exact ⟨by unfold orI; rw [if_neg h0]; rfl, rfl⟩
 ·rename_i h
  have h0 : x = 0 := by simpa using h
  clear h
  rw [rounds_succ]
  go_wp2
  ·go_ret
   exact ⟨by unfold orI; rw [if_pos h0]; rfl, rfl⟩
  ·rename_i h
   have h1 : y = 0 := by simpa using h
   clear h
   rw [rounds_succ]
   go_wp2
   go_ret
   exact ⟨by unfold orI; rw [if_pos h0, h1]; rfl, rfl⟩
def ClS : Type := { c : Dg.Cl // SpW c.id }
instance : Inhabited ClS := ⟨⟨Dg.Cl0, sp0_w⟩⟩
def encS (c : ClS) : List Value := (clC c.1).toList
def cfS (x y : ClS) : Int := orI (y.1.id.count - x.1.id.count) (y.1.id.seat - x.1.id.seat)
theorem cmp_sib (x y : ClS) (w : World) :
  Calls Tryz.prog 58 #[.agg (encS x).toArray, .agg (encS y).toArray] w fun e w' => e = .returned (.int .i64 (cfS x y)) ∧ ∃ q os', w' = grow (w.drewN q) os' := by
 obtain ⟨⟨⟨xs, xc⟩, xa, xp, xg⟩, hx⟩ := x
 obtain ⟨⟨⟨ys, yc⟩, ya, yp, yg⟩, hy⟩ := y
 obtain ⟨x1, x2, x3, x4⟩ := hx
 obtain ⟨y1, y2, y3, y4⟩ := hy
 obtain ⟨R, hR⟩ : ∃ R, orI (yc - xc) (ys - xs) = R := ⟨_, rfl⟩
 have HR := hide hR
 show Calls Tryz.prog 58 #[.agg (clC ⟨⟨xs, xc⟩, xa, xp, xg⟩), .agg (clC ⟨⟨ys, yc⟩, ya, yp, yg⟩)] w fun e w' => e = .returned (.int .i64 (orI (yc - xc) (ys - xs))) ∧ _
 rw [hR]
 clear hR
 simp only at x1 x2 x3 x4 y1 y2 y3 y4
 obtain ⟨r1, r2, hb, hs⟩ := iAlloc2 w (.cells (clC ⟨⟨xs, xc⟩, xa, xp, xg⟩) 55) (.cells (clC ⟨⟨ys, yc⟩, ya, yp, yg⟩) 55)
 have a0 : ((w.alloc (.cells (clC ⟨⟨xs, xc⟩, xa, xp, xg⟩) 55)).alloc (.cells (clC ⟨⟨ys, yc⟩, ya, yp, yg⟩) 55)).cell? ⟨w.heap.size, 0, none⟩ = some (.int .i64 xs) := cell_of_row _ _ 0 _ _ _ r1
 have a1 : ((w.alloc (.cells (clC ⟨⟨xs, xc⟩, xa, xp, xg⟩) 55)).alloc (.cells (clC ⟨⟨ys, yc⟩, ya, yp, yg⟩) 55)).cell? ⟨w.heap.size, 1, none⟩ = some (.int .i64 xc) := cell_of_row _ _ 1 _ _ _ r1
 have b0 : ((w.alloc (.cells (clC ⟨⟨xs, xc⟩, xa, xp, xg⟩) 55)).alloc (.cells (clC ⟨⟨ys, yc⟩, ya, yp, yg⟩) 55)).cell? ⟨w.heap.size + 1, 0, none⟩ = some (.int .i64 ys) := cell_of_row _ _ 0 _ _ _ r2
 have b1 : ((w.alloc (.cells (clC ⟨⟨xs, xc⟩, xa, xp, xg⟩) 55)).alloc (.cells (clC ⟨⟨ys, yc⟩, ya, yp, yg⟩) 55)).cell? ⟨w.heap.size + 1, 1, none⟩ = some (.int .i64 yc) := cell_of_row _ _ 1 _ _ _ r2
 have r3 := (iAlloc3 w (.cells (clC ⟨⟨xs, xc⟩, xa, xp, xg⟩) 55) (.cells (clC ⟨⟨ys, yc⟩, ya, yp, yg⟩) 55) (.cells #[.int .i64 (yc - xc), .int .i64 (ys - xs)] 3)).2.2.1
 have HR3 := hide r3
 clear r1 r2 r3 hb hs
 go_enter func58, ntmps58
 go_wp2_with fail
 refine (or_of _ (yc - xc) (ys - xs) _ (cell_of_row _ _ 0 _ _ _ HR3.out) (cell_of_row _ _ 1 _ _ _ HR3.out)).mono ?_
 rintro e w2 ⟨rfl, rfl⟩
 rw [HR.out]
 go_wp2
 go_ret
 exact ⟨rfl, 0, _, by rw [alloc_eq_grow, alloc_eq_grow, alloc_eq_grow, grow_grow, grow_grow]; rfl⟩
theorem cmpLays_sib (blk off size : Nat) (w : World) : CmpLays Tryz.prog 58 #[] encS 20 cfS blk off size w :=
 fun _ _ _ _ x y => by
  have := cmp_sib x y
  exact this _
theorem lt_sib (x y : ClS) : ltOf cfS x y = decide (y.1.id.count < x.1.id.count ∨ (y.1.id.count = x.1.id.count ∧ y.1.id.seat < x.1.id.seat)) := by
 unfold ltOf cfS orI
 rw [decide_eq_decide]
 split <;> omega
theorem swo_sib : SWO (ltOf cfS) where
 irrefl x := by rw [lt_sib]; exact decide_eq_false (by omega)
 trans x y z h1 h2 := by rw [lt_sib] at *; simp only [decide_eq_true_eq] at *; omega
 ntrans x y z h1 h2 := by rw [lt_sib] at *; simp only [decide_eq_false_iff_not] at *; omega
end Go.Proofs.YtkpbofnnnihbeaaGreat
namespace Go.Proofs
open Go.Shelf
def Tryz.sortCl_ren : Go.Shelf.Ren := ⟨fun | 6 => 57 | 15 => 84 | 14 => 83 | 28 => 109 | 29 => 110 | 20 => 80 | 21 => 102 | 22 => 103 | 23 => 104 | 24 => 105 | 25 => 106 | 26 => 107 | 27 => 108 | 46 => 120 | 47 => 121 | 48 => 122 | 49 => 123 | 50 => 124 | 57 => 132 | n => n, fun | 22 => 30 | 24 => 55 | 25 => 78 | 3 => 3 | 39 => 163 | 0 => 0 | 53 => 188 | 55 => 190 | 4 => 4 | 46 => 182 | 45 => 181 | 50 => 169 | 5 => 5 | 9 => 9 | 66 => 197 | 70 => 201 | 76 => 206 | 77 => 207 | n => n, fun | n => n⟩
theorem Tryz.sortCl : Go.Proofs.SlLaysF0.n6 Tryz.prog Tryz.sortCl_ren := {
 mixed := by kernel_rfl
 f6 := ⟨Tryz.f57.name, by decide, Tryz.func57.trans (congrArg some (by kernel_rfl))⟩
 f14 := ⟨Tryz.f83.name, by decide, Tryz.func83.trans (congrArg some (by kernel_rfl))⟩
 f15 := Tryz.func84.trans (congrArg some (by kernel_rfl))
 f20 := ⟨Tryz.f80.name, by decide, Tryz.func80.trans (congrArg some (by kernel_rfl))⟩
 f21 := ⟨Tryz.f102.name, by decide, Tryz.func102.trans (congrArg some (by kernel_rfl))⟩
 f22 := ⟨Tryz.f103.name, by decide, Tryz.func103.trans (congrArg some (by kernel_rfl))⟩
 f23 := ⟨Tryz.f104.name, by decide, Tryz.func104.trans (congrArg some (by kernel_rfl))⟩
 f24 := ⟨Tryz.f105.name, by decide, Tryz.func105.trans (congrArg some (by kernel_rfl))⟩
 f25 := ⟨Tryz.f106.name, by decide, Tryz.func106.trans (congrArg some (by kernel_rfl))⟩
 f26 := ⟨Tryz.f107.name, by decide, Tryz.func107.trans (congrArg some (by kernel_rfl))⟩
 f27 := ⟨Tryz.f108.name, by decide, Tryz.func108.trans (congrArg some (by kernel_rfl))⟩
 f28 := Tryz.func109.trans (congrArg some (by kernel_rfl))
 f29 := Tryz.func110.trans (congrArg some (by kernel_rfl))
 f46 := ⟨Tryz.f120.name, by decide, Tryz.func120.trans (congrArg some (by kernel_rfl))⟩
 f47 := Tryz.func121.trans (congrArg some (by kernel_rfl))
 f48 := Tryz.func122.trans (congrArg some (by kernel_rfl))
 f49 := ⟨Tryz.f123.name, by decide, Tryz.func123.trans (congrArg some (by kernel_rfl))⟩
 f50 := ⟨Tryz.f124.name, by decide, Tryz.func124.trans (congrArg some (by kernel_rfl))⟩
 f57 := ⟨Tryz.f132.name, by decide, Tryz.func132.trans (congrArg some (by kernel_rfl))⟩
 t0 := Tryz.underlying0
 a0 := Tryz.isAgg0
 z0 := Tryz.sizeOf0
 v0 := Tryz.zeroValue0
 t3 := Tryz.underlying3
 a3 := Tryz.isAgg3
 z3 := Tryz.sizeOf3
 v3 := Tryz.zeroValue3
 t4 := Tryz.underlying4
 a4 := Tryz.isAgg4
 z4 := Tryz.sizeOf4
 v4 := Tryz.zeroValue4
 t5 := Tryz.underlying5
 a5 := Tryz.isAgg5
 z5 := Tryz.sizeOf5
 v5 := Tryz.zeroValue5
 t9 := Tryz.underlying9
 a9 := Tryz.isAgg9
 z9 := Tryz.sizeOf9
 v9 := Tryz.zeroValue9
 t22 := Tryz.underlying30
 a22 := Tryz.isAgg30
 z22 := Tryz.sizeOf30
 v22 := Tryz.zeroValue30
 t25 := Tryz.underlying78
 a25 := Tryz.isAgg78
 z25 := Tryz.sizeOf78
 v25 := Tryz.zeroValue78
 t39 := Tryz.underlying163
 a39 := Tryz.isAgg163
 z39 := Tryz.sizeOf163
 v39 := Tryz.zeroValue163
 t45 := Tryz.underlying181
 a45 := Tryz.isAgg181
 z45 := Tryz.sizeOf181
 v45 := Tryz.zeroValue181
 t46 := Tryz.underlying182
 a46 := Tryz.isAgg182
 z46 := Tryz.sizeOf182
 v46 := Tryz.zeroValue182
 t50 := Tryz.underlying169
 a50 := Tryz.isAgg169
 z50 := Tryz.sizeOf169
 v50 := Tryz.zeroValue169
 t53 := Tryz.underlying188
 a53 := Tryz.isAgg188
 z53 := Tryz.sizeOf188
 v53 := Tryz.zeroValue188
 t55 := Tryz.underlying190
 a55 := Tryz.isAgg190
 z55 := Tryz.sizeOf190
 v55 := Tryz.zeroValue190
 t66 := Tryz.underlying197
 a66 := Tryz.isAgg197
 z66 := Tryz.sizeOf197
 v66 := Tryz.zeroValue197
 t70 := Tryz.underlying201
 a70 := Tryz.isAgg201
 z70 := Tryz.sizeOf201
 v70 := Tryz.zeroValue201
 t76 := Tryz.underlying206
 a76 := Tryz.isAgg206
 z76 := Tryz.sizeOf206
 v76 := Tryz.zeroValue206
 t77 := Tryz.underlying207
 a77 := Tryz.isAgg207
 z77 := Tryz.sizeOf207
 v77 := Tryz.zeroValue207 }
end Go.Proofs
namespace Go.Proofs.YtkpbofnnnihbeaaGreat
open Go Go.RowKit Go.Sort Go.Maps Rw Tryz
theorem heap_putRow {w : World} {g : Nat} {F cur : Array Value} {e : TypeId} {fr : Nat × Nat} (h : w.heap[g]? = some (.cells cur e fr)) (hs : F.size ≤ cur.size) : (putRow id w g 0 F).heap[g]? = some (.cells (F.toList ++ cur.toList.drop F.size).toArray e fr) := by
 have e1 : putCells id 0 F cur = (F.toList ++ cur.toList.drop F.size).toArray := by
  apply Array.ext
  ·simp [putCells]
   omega
  ·intro i h1 h2
   simp only [putCells, Array.getElem_mapIdx, List.getElem_toArray]
   by_cases hi : i < F.size
   ·rw [if_pos ⟨Nat.zero_le _, by omega⟩, List.getElem_append_left (by simpa using hi)]
    simp [getElem!_pos F i hi]
   ·rw [if_neg (by omega), List.getElem_append_right (by simpa using hi), List.getElem_drop]
    simp only [Array.length_toList, Array.getElem_toList]
    congr 1
    omega
 rw [← e1]
 show (w.heap.modify g _)[g]? = _
 rw [Array.getElem?_modify, if_pos rfl, h]
 rfl
theorem heap_putRow_other {w : World} {g k : Nat} {F : Array Value} (h : k ≠ g) : (putRow id w g 0 F).heap[k]? = w.heap[k]? := by
 show (w.heap.modify g _)[k]? = _
 rw [Array.getElem?_modify, if_neg (fun e => h e.symm)]
theorem encS_len (x : ClS) : (encS x).length = 20 := rfl
theorem encS_one (x : ClS) : ∀ v ∈ encS x, v.oneCell' = true := clL.one x.1
def clsM (c : Dg.Cl) (h : SpW c.id) : ClS := ⟨c, h⟩
def clsV (c : ClS) : Dg.Cl := c.1
theorem flat_encS (d : Array ClS) : (flatK encS 20 d).toList = clL.flat (d.toList.map clsV) := by
 apply List.ext_getElem?
 intro t
 by_cases ht : t < d.size * 20
 ·have h1 : t < (flatK encS 20 d).size := by rw [size_flatK]; exact ht
  have hj : t / 20 < d.size := by omega
  have h2 : (d.toList.map clsV)[t / 20]? = some d[t / 20].1 := by
   rw [List.getElem?_map, Array.getElem?_toList, Array.getElem?_eq_getElem hj]
   rfl
  have h3 := clL.flat_get _ _ (t % 20) _ h2 (Nat.mod_lt _ (by decide))
  have h4 : t / 20 * clL.k + t % 20 = t := by show t / 20 * 20 + t % 20 = t; omega
  rw [h4] at h3
  rw [h3, Array.getElem?_toList, Array.getElem?_eq_getElem h1, ← getElem!_pos (flatK encS 20 d) t h1, get_flatK encS 20 d t ht, getElem!_pos d _ hj]
  have h5 : t % 20 < (encS d[t / 20]).length := by rw [encS_len]; exact Nat.mod_lt _ (by decide)
  rw [getElem!_pos (encS d[t / 20]) _ h5]
  exact (List.getElem?_eq_getElem h5).symm
 ·rw [List.getElem?_eq_none (by rw [Array.length_toList, size_flatK]; omega), List.getElem?_eq_none (by rw [clL.flat_len, List.length_map, Array.length_toList]; show d.size * 20 ≤ t; omega)]
theorem sort_list {α : Type} [Inhabited α] {lt : α → α → Bool} {d d' : Array α} (hp : PermIn 0 d.size d d') (hs : SortedIn lt 0 d.size d') : d'.toList.Perm d.toList ∧ d'.toList.Pairwise fun x y => lt y x = false := by
 obtain ⟨h1, _, h3⟩ := hp
 constructor
 ·have e1 : d'.extract 0 d.size = d' := by rw [← h1, Array.extract_size]
  rw [e1, Array.extract_size] at h3
  exact h3
 ·rw [List.pairwise_iff_getElem]
  intro i j hi hj hij
  rw [Array.length_toList] at hi hj
  have := hs i j (Nat.zero_le _) hij (by omega)
  rw [getElem!_pos d' i hi, getElem!_pos d' j hj] at this
  exact this
theorem sort_cl (B g cap n : Nat) (l : List Dg.Cl) (hn : l.length = n) (w : World) (h : Own1 clL 55 w B (.slice (some ⟨g, 0, none⟩) n cap) l) (hs : ∀ c ∈ l, SpW c.id) (hl : n ≤ 1048576) :
  Calls Tryz.prog 57 #[.slice (some ⟨g, 0, none⟩) n cap, .func (.func 58) #[] #[]] w fun e w' => e = .returned (.tuple #[]) ∧ (∃ l2, l2.Perm l ∧ l2.Pairwise (fun a b => Dg.leC a b = true) ∧ Own1 clL 55 w' B (.slice (some ⟨g, 0, none⟩) n cap) l2) ∧ w.grownBy w' (some g) := by
 subst hn
 rcases h.2 with ⟨h0, _⟩ | ⟨g', cap', cur, he, hB, hg, hc, hm, hcs, htk⟩
 ·cases h0
 injection he with he _ he2
 injection he with he
 injection he with he _ _
 subst he
 subst he2
 have hlt := lt_of_block hg
 obtain ⟨d, hd⟩ : ∃ d : Array ClS, d.toList.map clsV = l := ⟨(l.attach.map fun x => clsM x.1 (hs x.1 x.2)).toArray, by
  show (l.attach.map fun x => clsM x.1 (hs x.1 x.2)).map clsV = l
  rw [List.map_map]
  exact List.attach_map_subtype_val l⟩
 have hds : d.size = l.length := by rw [← hd, List.length_map, Array.length_toList]
 have hflat : (flatK encS 20 d).toList = clL.flat l := by rw [flat_encS, hd]
 have hle : l.length * 20 ≤ cur.size := by rw [hcs]; exact Nat.mul_le_mul_right 20 hc
 have hH : HoldsK encS 20 w g 0 d := fun j hj => by
  rw [size_flatK, hds] at hj
  refine ⟨?_, frozen_of_row _ _ _ _ _ hg⟩
  have hj1 : j < (flatK encS 20 d).size := by rw [size_flatK, hds]; exact hj
  have h2 : (clL.flat l)[j]? = some (flatK encS 20 d)[j]! := by
   rw [← hflat, Array.getElem?_toList, Array.getElem?_eq_getElem hj1, getElem!_pos _ j hj1]
  rw [Nat.zero_add, cell_of_row _ _ _ _ _ (0, 0) hg, ← Array.getElem?_toList]
  rw [← htk, List.getElem?_take] at h2
  split at h2
  ·exact h2
  ·cases h2
 have eg : ∀ args w, (callFunc 58 args).run Tryz.prog w = .ok (.enter 58 args) w := enters_of func58 (by kernel_rfl) rfl
 have hcon := AnyQ.slices_SortFunc Tryz.sortCl 20 Tryz.isAgg55 Tryz.sizeOf55 encS encS_len encS_one cfS swo_sib 58 #[] g 0 cap d w eg (cmpLays_sib g 0 d.size w) hH hlt (by omega)
 rw [hds] at hcon
 refine Calls.mono hcon ?_
 rintro e w' ⟨rfl, d', m, os, hp, hsd, rfl⟩
 rw [← hds] at hp hsd
 obtain ⟨p1, p2⟩ := sort_list hp hsd
 have hd's : d'.size = d.size := hp.1
 have hfs : (flatK encS 20 d').size = l.length * 20 := by rw [size_flatK, hd's, hds]
 have hrow : (sortWorldK encS 20 w g 0 m d' os).heap[g]? = some (.cells (clL.flat (d'.toList.map clsV) ++ cur.toList.drop (l.length * 20)).toArray 55 (0, 0)) := by
  show ((putRow id (Sort.ahead w m) g 0 (flatK encS 20 d')).heap ++ os)[g]? = _
  rw [Array.getElem?_append_left (by rw [size_putRow]; exact hlt), heap_putRow (w := Sort.ahead w m) hg (by rw [hfs]; exact hle), flat_encS, hfs]
 have hll : (d'.toList.map clsV).length = l.length := by rw [List.length_map, Array.length_toList, hd's, hds]
 refine ⟨rfl, ⟨d'.toList.map clsV, ?_, ?_, ?_⟩, ⟨rfl, rfl, rfl, ?_, fun k hk hne => ?_⟩⟩
 ·rw [← hd]
  exact p1.map _
 ·rw [List.pairwise_map]
  refine p2.imp fun {a b} h => ?_
  rw [lt_sib] at h
  have h := of_decide_eq_false h
  unfold Dg.leC
  refine decide_eq_true ?_
  show b.1.id.count < a.1.id.count ∨ (b.1.id.count = a.1.id.count ∧ b.1.id.seat ≤ a.1.id.seat)
  omega
 ·have := Own1.mk (L := clL) (cap := cap) (l := d'.toList.map clsV) hB hrow hm (by rw [hll]; exact hc) (by rw [List.length_drop, Array.length_toList, hcs, hll, Nat.sub_mul]; rfl)
  rw [hll] at this
  exact this
 ·show w.heap.size ≤ ((putRow id (Sort.ahead w m) g 0 (flatK encS 20 d')).heap ++ os).size
  rw [Array.size_append, size_putRow]
  exact Nat.le_add_right _ _
 ·show ((putRow id (Sort.ahead w m) g 0 (flatK encS 20 d')).heap ++ os)[k]? = _
  rw [Array.getElem?_append_left (by rw [size_putRow]; exact hk)]
  exact heap_putRow_other (w := Sort.ahead w m) (fun e => hne (by rw [e]))
theorem kids_eq {pg V l l2 : List Dg.Cl} {d : Dg.Sp} (hn : Dg.NdC pg) (hV : V.Perm pg) (h1 : l.Perm (aftL V d)) (h2 : l2.Perm l) (h3 : l2.Pairwise fun a b => Dg.leC a b = true) : l2 = Dg.kidsC pg d := by
 have hp : l2.Perm (pg.filter fun c => decide (c.after = d)) := (h2.trans h1).trans (hV.filter _)
 unfold Dg.kidsC
 refine List.Perm.eq_of_pairwise (le := fun a b => Dg.leC a b = true) (fun a b ha hb h1 h2 => ?_) h3 (List.pairwise_mergeSort Dg.leC_trans Dg.leC_total _) (hp.trans (List.mergeSort_perm _ _).symm)
 have ha' := (List.mem_filter.1 (hp.mem_iff.1 ha)).1
 have hb' := (List.mem_filter.1 ((List.mergeSort_perm _ _).mem_iff.1 hb)).1
 exact hn.inj ha' hb' (Dg.leC_anti h1 h2)
def LowK (w : World) (mb : Nat) (n : Int) (k : Nat) : Prop := ∀ es clock, w.heap[mb]? = some (.map es clock) → ∀ x ∈ es.toList, x.val.ownBlock = some k → ∃ s : Dg.Sp, x.key = spV s ∧ s.count < n
theorem LowK.map {w w' : World} {mb k : Nat} {n : Int} (h : LowK w mb n k) (e : w'.heap[mb]? = w.heap[mb]?) : LowK w' mb n k := fun es clock hb => h es clock (e.symm.trans hb)
theorem LowK.mono {w : World} {mb k : Nat} {n n' : Int} (h : LowK w mb n k) (e : n ≤ n') : LowK w mb n' k := fun es clock hb x hx hj => by
 obtain ⟨s, h1, h2⟩ := h es clock hb x hx hj
 exact ⟨s, h1, by omega⟩
theorem RowOf.map {w w' : World} {mb j : Nat} {d : Dg.Sp} (h : RowOf w mb d j) (e : w'.heap[mb]? = w.heap[mb]?) : RowOf w' mb d j := by
 obtain ⟨es, clock, hb, r⟩ := h
 exact ⟨es, clock, e.trans hb, r⟩
theorem RowOf.low {w : World} {mb j : Nat} {d : Dg.Sp} {n : Int} (h : RowOf w mb d j) (hn : d.count < n) : LowK w mb n j := fun es clock hb x hx hj => by
 obtain ⟨es', clock', hb', _, h2⟩ := h
 rw [hb] at hb'
 injection hb' with hb'
 injection hb' with h1 _
 subst h1
 exact ⟨d, h2 x hx hj, hn⟩
theorem RowOf.ne {w : World} {mb j k : Nat} {d : Dg.Sp} {n : Int} (h : RowOf w mb d j) (hn : n ≤ d.count) (hl : LowK w mb n k) : k ≠ j := fun e => by
 obtain ⟨es, clock, hb, ⟨x, hx, hk, hj⟩, _⟩ := h
 rw [← e] at hj
 obtain ⟨s, h1, h2⟩ := hl es clock hb x hx hj
 rw [hk] at h1
 rw [spV_inj h1] at hn
 omega
theorem RowOf.off {w : World} {mb j : Nat} {d : Dg.Sp} {O : Option Nat} (h : RowOf w mb d j) (hO : KidOff w mb O) : O ≠ some j := by
 obtain ⟨es, clock, hb, ⟨x, hx, hk, hj⟩, _⟩ := h
 exact hO es clock hb x hx j hj
theorem own_tag {w : World} {B g : Nat} {v : Value} {l : List Dg.Cl} {o : Obj} (h : Own1 clL 55 w B v l) (hb : w.heap[g]? = some o) (ho : ∀ cs fr, o ≠ .cells cs 55 fr) : v.ownBlock ≠ some g := by
 rcases h.2 with ⟨rfl, _⟩ | ⟨g', cap, cur, rfl, _, hg, _⟩
 ·intro e; cases e
 ·intro e
  injection e with e
  have e : g' = g := e
  rw [e, hb] at hg
  injection hg with hg
  exact ho _ _ hg
theorem KidAt.tag {w : World} {mb B g : Nat} {V : List Dg.Cl} {o : Obj} (h : KidAt w mb B V) (hb : w.heap[g]? = some o) (ho : ∀ cs fr, o ≠ .cells cs 55 fr) : KidOff w mb (some g) := fun es clock he x hx j hj e => by
 obtain ⟨es', clock', he', hF⟩ := h
 rw [he] at he'
 injection he' with he'
 injection he' with h1 _
 subst h1
 obtain ⟨_, _, _, _, _, hown⟩ := hF.rows x hx
 exact own_tag hown hb ho (by rw [hj]; exact e.symm)
theorem own_kept {α : Type} {L : Lay α} {e : TypeId} {w w' : World} {B : Nat} {v : Value} {l : List α} (h : Own1 L e w B v l) (hb : ∀ k, v.ownBlock = some k → w'.heap[k]? = w.heap[k]?) : Own1 L e w' B v l := by
 obtain ⟨h1, h2⟩ := h
 refine ⟨h1, ?_⟩
 rcases h2 with h2 | ⟨b, cap, cur, hv, hB, hh, r⟩
 ·exact Or.inl h2
 ·exact Or.inr ⟨b, cap, cur, hv, hB, (hb b (by rw [hv]; rfl)).trans hh, r⟩
def NewO (n : Nat) (O O' : Option Nat) : Prop := O' = O ∨ ∃ b, O' = some b ∧ n ≤ b
theorem NewO.refl (n : Nat) (O : Option Nat) : NewO n O O := .inl rfl
theorem NewO.trans {n m : Nat} {O O' O'' : Option Nat} (h : NewO n O O') (k : NewO m O' O'') (hnm : n ≤ m) : NewO n O O'' := by
 rcases k with rfl | ⟨b, e, hb⟩
 ·exact h
 ·exact .inr ⟨b, e, by omega⟩
theorem NewO.ne {n k : Nat} {O O' : Option Nat} (h : NewO n O O') (hk : k < n) (hne : some k ≠ O) : some k ≠ O' := fun e => by
 rcases h with rfl | ⟨b, e2, hb⟩
 ·exact hne e
 ·rw [e2] at e
  injection e with e
  omega
structure LsF (B mb ob : Nat) (O : Option Nat) (n : Int) (X Y : World) : Prop where
 below : Below B X Y
 map : Y.heap[mb]? = X.heap[mb]?
 keep : ∀ k, k < X.heap.size → k ≠ ob → some k ≠ O → LowK X mb n k → Y.heap[k]? = X.heap[k]?
theorem LsF.trans {B mb ob : Nat} {O O' : Option Nat} {n n' : Int} {X Y Z : World} (h : LsF B mb ob O n X Y) (k : LsF B mb ob O' n' Y Z) (hO : NewO X.heap.size O O') (hn : n ≤ n') : LsF B mb ob O n X Z :=
 ⟨h.below.trans k.below, k.map.trans h.map, fun i hi h1 h2 h3 => (k.keep i (Nat.lt_of_lt_of_le hi h.below.size) h1 (hO.ne hi h2) ((h3.mono hn).map h.map)).trans (h.keep i hi h1 h2 h3)⟩
theorem LsF.of_below {B mb ob : Nat} {O : Option Nat} {n : Int} {X Y : World} (h : Below X.heap.size X Y) (hB : B ≤ X.heap.size) (hm : mb < X.heap.size) : LsF B mb ob O n X Y := ⟨h.mono hB, h.block mb hm, fun k hk _ _ _ => h.block k hk⟩
structure LsS (B mb cb ob kb : Nat) (V : List Dg.Cl) (vo : Value) (lo : List Dg.Cl) (X : World) : Prop where
 kid : KidAt X mb B V
 rC : X.heap[cb]? = some (.cells #[.map (some mb)] 137 (0, 0))
 rO : X.heap[ob]? = some (.cells #[vo] 30 (0, 0))
 rK : X.heap[kb]? = some (.cells #[.func (.func 56) #[] #[.pointer (some ⟨cb, 0, none⟩), .pointer (some ⟨ob, 0, none⟩), .pointer (some ⟨kb, 0, none⟩)]] 138 (0, 0))
 own : Own1 clL 55 X B vo lo
 off : KidOff X mb vo.ownBlock
 bot : B ≤ ob
theorem LsS.below {B mb cb ob kb : Nat} {V : List Dg.Cl} {vo : Value} {lo : List Dg.Cl} {X Y : World} (h : LsS B mb cb ob kb V vo lo X) (hb : Below X.heap.size X Y) : LsS B mb cb ob kb V vo lo Y :=
 ⟨h.kid.below hb, iNext h.rC hb, iNext h.rO hb, iNext h.rK hb, h.own.below hb, h.off.kept (grown_of_below hb none) h.kid.lt (by simp), h.bot⟩
theorem LsS.tagC {B mb cb ob kb : Nat} {V : List Dg.Cl} {vo : Value} {lo : List Dg.Cl} {X : World} (h : LsS B mb cb ob kb V vo lo X) {v : Value} {l : List Dg.Cl} {B' : Nat} (hv : Own1 clL 55 X B' v l) : v.ownBlock ≠ some cb ∧ v.ownBlock ≠ some ob ∧ v.ownBlock ≠ some kb ∧ v.ownBlock ≠ some mb := by
 obtain ⟨es, clock, hm, _⟩ := h.kid
 exact ⟨own_tag hv h.rC (fun _ _ e => by injection e with _ e _; exact absurd e (by decide)), own_tag hv h.rO (fun _ _ e => by injection e with _ e _; exact absurd e (by decide)), own_tag hv h.rK (fun _ _ e => by injection e with _ e _; exact absurd e (by decide)), own_tag hv hm (fun _ _ e => by cases e)⟩
theorem LsS.ne {B mb cb ob kb : Nat} {V : List Dg.Cl} {vo : Value} {lo : List Dg.Cl} {X : World} (h : LsS B mb cb ob kb V vo lo X) : cb ≠ ob ∧ kb ≠ ob ∧ mb ≠ ob := by
 obtain ⟨es, clock, hm, _⟩ := h.kid
 have tgs : ∀ {g g' : Nat} {o o' : Obj}, X.heap[g]? = some o → X.heap[g']? = some o' → o ≠ o' → g ≠ g' := fun {g g' o o'} h1 h2 hne e => by
  rw [e, h2] at h1
  injection h1 with h1
  exact hne h1.symm
 exact ⟨tgs h.rC h.rO (fun e => by injection e with _ e _; exact absurd e (by decide)), tgs h.rK h.rO (fun e => by injection e with _ e _; exact absurd e (by decide)), tgs hm h.rO (fun e => by cases e)⟩
theorem LsS.append {B mb cb ob kb : Nat} {V : List Dg.Cl} {vo vo' : Value} {lo lo' : List Dg.Cl} {X Y : World} (h : LsS B mb cb ob kb V vo lo X) (hg : X.grownBy Y vo.ownBlock) (hO : Own1 clL 55 Y B vo' lo') (hat : vo'.ownBlock = vo.ownBlock ∨ vo'.ownBlock = some X.heap.size) :
  LsS B mb cb ob kb V vo' lo' (Y.setRow ob #[vo']) ∧ ∀ (n : Int), Below B X Y → LsF B mb ob vo.ownBlock n X (Y.setRow ob #[vo']) := by
 obtain ⟨t1, t2, t3, t4⟩ := h.tagC h.own
 obtain ⟨n1, n2, n3⟩ := h.ne
 have hml := h.kid.lt
 have k1 : KidAt Y mb B V := h.kid.kept hg (fun e => t4 e.symm) h.off
 have rO1 : Y.heap[ob]? = some (.cells #[vo] 30 (0, 0)) := (hg.block ob (lt_of_block h.rO) (fun e => t2 e.symm)).trans h.rO
 have hgs : Y.grownBy (Y.setRow ob #[vo']) (some ob) := ⟨rfl, rfl, rfl, by rw [size_setRow]; exact Nat.le_refl _, fun i _ hne => setRow_other Y ob i _ (fun e => hne (by rw [e]))⟩
 have hso : KidOff Y mb (some ob) := k1.tag rO1 (fun _ _ e => by injection e with _ e _; exact absurd e (by decide))
 have hoff : KidOff Y mb vo'.ownBlock := by
  rcases hat with e | e
  ·rw [e]
   exact h.off.kept hg hml (fun e => t4 e.symm)
  ·rw [e]
   exact KidOff.kept (h.kid.fresh (Nat.le_refl _)) hg hml (fun e => t4 e.symm)
 have o2 : vo'.ownBlock ≠ some ob := own_tag hO rO1 (fun _ _ e => by injection e with _ e _; exact absurd e (by decide))
 refine ⟨⟨k1.kept hgs (fun e => n3 (by injection e)) hso, ?_, setRow_heap Y ob _ _ _ _ rO1, ?_, own_other hO o2 _, hoff.kept hgs k1.lt (fun e => n3 (by injection e)), h.bot⟩, fun n hb => ⟨below_setRow hb h.bot _, ?_, fun k hk h1 h2 _ => ?_⟩⟩
 ·exact (setRow_other Y ob cb _ n1).trans ((hg.block cb (lt_of_block h.rC) (fun e => t1 e.symm)).trans h.rC)
 ·exact (setRow_other Y ob kb _ n2).trans ((hg.block kb (lt_of_block h.rK) (fun e => t3 e.symm)).trans h.rK)
 ·exact (setRow_other Y ob mb _ n3).trans (hg.block mb hml (fun e => t4 e.symm))
 ·exact (setRow_other Y ob k _ h1).trans (hg.block k hk h2)
theorem LsS.sorted {B mb cb ob kb : Nat} {V : List Dg.Cl} {vo : Value} {lo : List Dg.Cl} {X Y : World} (h : LsS B mb cb ob kb V vo lo X) {v : Value} {l : List Dg.Cl} {d : Dg.Sp} (hv : Own1 clL 55 X B v l) (hr : ∀ j, v.ownBlock = some j → RowOf X mb d j) (hg : X.grownBy Y v.ownBlock) (hk : KidAt Y mb B V) :
  LsS B mb cb ob kb V vo lo Y ∧ LsF B mb ob vo.ownBlock d.count X Y := by
 obtain ⟨t1, t2, t3, t4⟩ := h.tagC hv
 have hml := h.kid.lt
 have hvo : vo.ownBlock = none ∨ vo.ownBlock ≠ v.ownBlock := by
  cases hvb : v.ownBlock with
  | none =>
   cases hob : vo.ownBlock with
   | none => exact .inl rfl
   | some j => exact .inr (fun e => by cases e)
  | some j => exact .inr ((hr j hvb).off h.off)
 refine ⟨⟨hk, (hg.block cb (lt_of_block h.rC) (fun e => t1 e.symm)).trans h.rC, (hg.block ob (lt_of_block h.rO) (fun e => t2 e.symm)).trans h.rO, (hg.block kb (lt_of_block h.rK) (fun e => t3 e.symm)).trans h.rK, World.ownsRow.kept h.own hg hvo, h.off.kept hg hml (fun e => t4 e.symm), h.bot⟩,
  ⟨(Below.refl B X).grown hg (Nat.le_of_lt (Nat.lt_of_le_of_lt h.bot (lt_of_block h.rO))) (fun k hk => (World.ownsRow.lt hv k hk).1), hg.block mb hml (fun e => t4 e.symm), fun k hk _ _ hl => hg.block k hk (fun e => (hr k e.symm).ne (Int.le_refl _) hl rfl)⟩⟩
def LsQ (B mb cb ob kb : Nat) (V : List Dg.Cl) (vo : Value) (lo out : List Dg.Cl) (n : Int) (X Y : World) : Prop := ∃ vo', LsS B mb cb ob kb V vo' (lo ++ out) Y ∧ LsF B mb ob vo.ownBlock n X Y ∧ NewO X.heap.size vo.ownBlock vo'.ownBlock
theorem LsQ.more {B mb cb ob kb : Nat} {V : List Dg.Cl} {vo vi : Value} {lo li a b : List Dg.Cl} {n : Int} {X Y Z : World} (hF : LsF B mb ob vo.ownBlock n X Y) (hN : NewO X.heap.size vo.ownBlock vi.ownBlock) (hli : li = lo ++ a) (h : LsQ B mb cb ob kb V vi li b n Y Z) : LsQ B mb cb ob kb V vo lo (a ++ b) n X Z := by
 obtain ⟨vo', h1, h2, h3⟩ := h
 subst hli
 exact ⟨vo', by rw [← List.append_assoc]; exact h1, hF.trans h2 hN (Int.le_refl _), hN.trans h3 hF.below.size⟩
def LsL (B mb cb ob kb : Nat) (V : List Dg.Cl) (vo : Value) (lo out : List Dg.Cl) (d : Dg.Sp) (v : Value) (L : List Dg.Cl) (X Y : World) : Prop := Own1 clL 55 Y B v L ∧ (∀ j, v.ownBlock = some j → RowOf Y mb d j) ∧ LsQ B mb cb ob kb V vo lo out d.count X Y
theorem LsL.next {B mb cb ob kb : Nat} {V : List Dg.Cl} {vo vi : Value} {lo li out more : List Dg.Cl} {d : Dg.Sp} {n : Int} {v : Value} {L : List Dg.Cl} {X Y Z : World} (hv : Own1 clL 55 Y B v L) (hr : ∀ j, v.ownBlock = some j → RowOf Y mb d j) (hS : LsS B mb cb ob kb V vi li Y) (hF : LsF B mb ob vo.ownBlock d.count X Y) (hN : NewO X.heap.size vo.ownBlock vi.ownBlock) (hli : li = lo ++ out)
  (h : LsQ B mb cb ob kb V vi li more n Y Z) (hn : d.count < n) : LsL B mb cb ob kb V vo lo (out ++ more) d v L X Z := by
 obtain ⟨vo', h1, h2, h3⟩ := h
 obtain ⟨t1, t2, t3, t4⟩ := hS.tagC hv
 subst hli
 refine ⟨own_kept hv fun k hk => ?_, fun j hj => (hr j hj).map h2.map, vo', by rw [← List.append_assoc]; exact h1, hF.trans h2 hN (Int.le_of_lt hn), hN.trans h3 hF.below.size⟩
 exact h2.keep k (World.ownsRow.lt hv k hk).2 (fun e => t2 (by rw [hk, e])) (fun e => (hr k hk).off hS.off e.symm) ((hr k hk).low hn)
theorem one_slice (A : Option Addr) (n c : Nat) : ∀ u ∈ (Value.slice A n c).cells.toList, u.oneCell' = true := fun u hu => by
 obtain rfl : u = .slice A n c := by simpa [Value.cells] using hu
 rfl
theorem sort_any_cl (B : Nat) (v : Value) (l : List Dg.Cl) (w : World) (h : Own1 clL 55 w B v l) (hs : ∀ c ∈ l, SpW c.id) (hl : l.length ≤ 1048576) :
  Calls Tryz.prog 57 #[v, .func (.func 58) #[] #[]] w fun e w' => e = .returned (.tuple #[]) ∧ (∃ l2, l2.Perm l ∧ l2.Pairwise (fun a b => Dg.leC a b = true) ∧ Own1 clL 55 w' B v l2) ∧ w.grownBy w' v.ownBlock := by
 have h' := h
 rcases h.2 with ⟨rfl, h0⟩ | ⟨g, cap, cur, rfl, _⟩
 ·obtain rfl : l = [] := List.eq_nil_of_length_eq_zero h0
  refine Calls.mono (AnyF.slices_SortFunc_none Tryz.sortCl none 0 (.func (.func 58) #[] #[]) w) ?_
  rintro e w' ⟨rfl, rfl⟩
  exact ⟨rfl, ⟨[], List.Perm.refl _, List.Pairwise.nil, h'⟩, ⟨rfl, rfl, rfl, Nat.le_refl _, fun _ _ _ => rfl⟩⟩
 ·exact sort_cl B g cap l.length l rfl w h' hs hl
theorem fold_cl (c : Dg.Cl) : Array.foldl (fun (cs : Array Value) (x : Value × Nat) => cs.setIfInBounds x.2 x.1) Rq17 (clC c).zipIdx 0 20 = clC c := by kernel_rfl
theorem flat_at (L : List Dg.Cl) (sp : List Value) (k : Nat) (hk : k < L.length) : (((clL.flat L ++ sp).toArray.toList.drop (k * 20)).take (clC L[k]).toList.length) = (clC L[k]).toList := by
 have h1 : (clC L[k]).toList.length = 20 := rfl
 have h2 := clL.flat_split L k (Nat.le_of_lt hk)
 have h3 : L.drop k = L[k] :: L.drop (k + 1) := List.drop_eq_getElem_cons hk
 have h4 : (clL.flat (L.take k)).length = k * 20 := h2.2
 rw [h1, List.toList_toArray, h2.1, List.append_assoc, ← h4, List.drop_left, h3, clL.flat_cons, List.append_assoc]
 exact (List.take_append_of_le_length (Nat.le_refl 20)).trans (List.take_of_length_le (Nat.le_refl 20))
theorem flat_len_at {α β : Type} (L : List α) (f : α → List β) (k : Nat) (hk : k < L.length) : (L.take (k + 1)).flatMap f = (L.take k).flatMap f ++ f L[k] ∧ ((L.take k).flatMap f).length + (f L[k]).length ≤ (L.flatMap f).length := by
 have h1 : L.take (k + 1) = L.take k ++ [L[k]] := List.take_succ_eq_append_getElem hk
 have h2 : (L.take (k + 1)).flatMap f = (L.take k).flatMap f ++ f L[k] := by rw [h1, List.flatMap_append]; simp
 refine ⟨h2, ?_⟩
 have h3 : L.flatMap f = (L.take (k + 1)).flatMap f ++ (L.drop (k + 1)).flatMap f := by rw [← List.flatMap_append, List.take_append_drop]
 rw [h3, h2, List.length_append, List.length_append]
 omega
attribute [-go_sem] Instr.storeAt in
theorem walk_step (B mb cb ob kb : Nat) (pg V : List Dg.Cl) (hV : V.Perm pg) (hnd : Dg.NdC pg) (hok : ∀ c ∈ pg, Dg.clOk c = true) (hpl : pg.length ≤ 100000) (a b : Int) (hd : SpW ⟨a, b⟩) (R : Dg.Cl → List Dg.Cl)
  (IH : ∀ c ∈ Dg.kidsC pg ⟨a, b⟩, ∀ (vo : Value) (lo : List Dg.Cl) (X : World), lo.length + (R c).length ≤ 100000 → LsS B mb cb ob kb V vo lo X →
   Calls Tryz.prog 56 #[.agg #[.int .i64 c.id.seat, .int .i64 c.id.count], .pointer (some ⟨cb, 0, none⟩), .pointer (some ⟨ob, 0, none⟩), .pointer (some ⟨kb, 0, none⟩)] X fun e Y => e = .returned (.tuple #[]) ∧ LsQ B mb cb ob kb V vo lo (R c) c.id.count X Y)
  (vo : Value) (lo : List Dg.Cl) (X : World) (hl : lo.length + ((Dg.kidsC pg ⟨a, b⟩).flatMap fun c => c :: R c).length ≤ 100000) (hS : LsS B mb cb ob kb V vo lo X) :
  Calls Tryz.prog 56 #[.agg #[.int .i64 a, .int .i64 b], .pointer (some ⟨cb, 0, none⟩), .pointer (some ⟨ob, 0, none⟩), .pointer (some ⟨kb, 0, none⟩)] X fun e Y => e = .returned (.tuple #[]) ∧ LsQ B mb cb ob kb V vo lo ((Dg.kidsC pg ⟨a, b⟩).flatMap fun c => c :: R c) b X Y := by
 have hbn := nwB X (.cells #[.int .i64 a, .int .i64 b] 49)
 have hS1 := hS.below hbn
 have r4 := heap_alloc_new X (.cells #[.int .i64 a, .int .i64 b] 49)
 obtain ⟨v, l, hrun, hp, hown, hrow, hcont⟩ := hS1.kid.look hd
 obtain ⟨A, cap, hv, _, _⟩ := hown.row
 obtain ⟨n, hn⟩ : ∃ n, l.length = n := ⟨_, rfl⟩
 rw [hn] at hv
 subst hv
 have hF1 : LsF B mb ob vo.ownBlock b X (X.alloc (.cells #[.int .i64 a, .int .i64 b] 49)) := LsF.of_below hbn (Nat.le_of_lt (Nat.lt_of_le_of_lt hS.bot (lt_of_block hS.rO))) hS.kid.lt
 have c0 := iCells0 hS1.rC
 have hlk : ∀ c ∈ l, SpW c.id := fun c hc => by
  have h1 := hp.mem_iff.1 hc
  have h2 := hV.mem_iff.1 (List.mem_filter.1 h1).1
  exact sp_w (Dg.clOk_id (hok c h2))
 have hll : l.length ≤ 1048576 := by
  have h1 := hp.length_eq
  have h2 : (aftL V ⟨a, b⟩).length ≤ V.length := List.length_filter_le _ _
  have h3 := hV.length_eq
  omega
 have HSO := hide (sort_any_cl B _ l _ hown hlk hll)
 have HF1 := hide hF1; have HS1 := hide hS1; have HOWN := hide hown; have HROW := hide hrow; have HCONT := hide hcont; have HPM := hide hp; have HN := hide hn; have HIH := hide IH; have HL := hide hl; have HVP := hide hV; have HND := hide hnd; have HOK := hide hok
 have k0 : (X.alloc (.cells #[.int .i64 a, .int .i64 b] 49)).cell? ⟨X.heap.size, 0, none⟩ = some (.int .i64 a) := cell_of_row _ _ 0 _ _ _ r4
 have k1 : (X.alloc (.cells #[.int .i64 a, .int .i64 b] 49)).cell? ⟨X.heap.size, 1, none⟩ = some (.int .i64 b) := cell_of_row _ _ 1 _ _ _ r4
 clear hF1 hS1 hown hrow hcont hp hn IH hl hV hnd hok hbn r4 hS hlk hll
 go_enter func56, ntmps56
 go_wp2_with fail
 refine HSO.out.mono ?_
 rintro e X2 ⟨rfl, ⟨l2, hp2, hs2, hown2⟩, hg2⟩
 clear hrun c0 k0 k1
 have hk2 := HCONT.out X2 l2 hg2 hp2 hown2
 obtain ⟨hS2, hF2⟩ := HS1.out.sorted HOWN.out HROW.out hg2 hk2
 have hl2 : l2 = Dg.kidsC pg ⟨a, b⟩ := kids_eq HND.out HVP.out HPM.out hp2 hs2
 have hn2 : l2.length = n := by rw [hp2.length_eq]; exact HN.out
 rw [← hl2] at HL HIH
 have HL2 := hide hl2
 have hmf : ∀ c ∈ l2, b < c.id.count ∧ SpW c.id := fun c hc => by
  rw [hl2] at hc
  obtain ⟨h1, h2⟩ := Dg.mem_kidsC.1 hc
  refine ⟨?_, sp_w (Dg.clOk_id (HOK.out c h1))⟩
  rcases Dg.clOk_up (HOK.out c h1) with e | e
  ·rw [h2] at e
   injection e with _ e
   have := (Dg.spOk_count (Dg.clOk_id (HOK.out c h1))).1
   omega
  ·rw [h2] at e
   exact e
 have hrow2 : ∀ j, (Value.slice A n cap).ownBlock = some j → RowOf X2 mb ⟨a, b⟩ j := fun j hj => (HROW.out j hj).map hF2.map
 have HLL := hide (⟨hown2, hrow2, vo, by rw [List.flatMap_nil, List.append_nil]; exact hS2, HF1.out.trans hF2 (.refl _ _) (Int.le_refl _), .refl _ _⟩ : LsL B mb cb ob kb V vo lo (([] : List Dg.Cl).flatMap fun c => c :: R c) ⟨a, b⟩ (.slice A n cap) l2 X X2)
 have HMF := hide hmf; have HN2 := hide hn2
 have hnb : n ≤ 1048576 := by
  have h1 := HN.out
  have h3 := HPM.out.length_eq
  have h4 : (aftL V ⟨a, b⟩).length ≤ V.length := List.length_filter_le _ _
  have h5 := HVP.out.length_eq
  omega
 clear hk2 hS2 hF2 hl2 hn2 hmf hrow2 hown2 hs2 hp2 hg2 HSO HCONT HROW HOWN HS1 HF1 HPM HVP HND HOK HN
 go_wp2_with fail
 go_loopw [15] (fun iv wr => ∃ k : Nat, k ≤ n ∧ iv = .int .i64 k ∧ Hid (LsL B mb cb ob kb V vo lo ((l2.take k).flatMap fun c => c :: R c) ⟨a, b⟩ (.slice A n cap) l2 X wr)) (fun iv _ => n - (intOf iv).toNat)
 case atStart => exact ⟨0, Nat.zero_le _, rfl, HLL⟩
 case round =>
  clear HLL
  obtain ⟨k, hk, rfl, HQ⟩ := hrel
  by_cases hlt : k < n
  ·obtain ⟨hown, hrow, vi, hS, hF, hN⟩ := HQ.out
   clear HQ
   have hkl : k < l2.length := by rw [HN2.out]; exact hlt
   obtain ⟨g, cap', sp, hvg, hBg, hglt, hgr, _, _, _⟩ := hown.form (by omega)
   injection hvg with hvg hvn hvc
   subst hvg
   clear hvn hvc
   obtain ⟨c, hc⟩ : ∃ c, l2[k] = c := ⟨_, rfl⟩
   have hcm : c ∈ l2 := by rw [← hc]; exact List.getElem_mem hkl
   have hrg := range_of hgr (k * 20) (clC c).toList (by rw [← hc]; exact flat_at l2 sp k hkl)
   obtain ⟨f1, f2⟩ := flat_len_at l2 (fun c => c :: R c) k hkl
   rw [hc] at f1 f2
   obtain ⟨A5, c5, hv5, _, _⟩ := hS.own.row
   obtain ⟨li, hli⟩ : ∃ li, lo ++ (l2.take k).flatMap (fun c => c :: R c) = li := ⟨_, rfl⟩
   rw [hli] at hS hv5
   obtain ⟨gl, hgl⟩ : ∃ gl, li.length = gl := ⟨_, rfl⟩
   rw [hgl] at hv5
   subst hv5
   have hlen : gl + 1 + (R c).length ≤ 100000 := by
    have h1 := HL.out
    rw [← hgl, ← hli, List.length_append]
    rw [List.length_cons] at f2
    omega
   have HRG := hide hrg; have HF1 := hide f1; have HLI := hide hli; have HCM := hide hcm; have HLEN := hide hlen; have HGL := hide hgl
   have hst := store_newcl wr c
   have hb1 := nwB wr (.cells (clC c) 55)
   have r7 := heap_alloc_new wr (.cells (clC c) 55)
   have hS1 := hS.below hb1
   have hobl := lt_of_block hS.rO
   have hvl : ∀ j, (Value.slice A5 gl c5).ownBlock = some j → j < wr.heap.size := fun j hj => (World.ownsRow.lt hS.own j hj).2
   have HWN := hide hown; have HRW := hide hrow; have HS0 := hide hS; have HFF := hide hF; have HNN := hide hN; have HB1 := hide hb1; have HS1 := hide hS1; have HR7 := hide r7; have HVL := hide hvl; have HBT := hide hS.bot
   have hsz0 : (wr.alloc (.cells (clC c) 55)).heap.size = wr.heap.size + 1 := by simp
   have HSZ0 := hide hsz0
   clear hown hrow hS hF hN hb1 hS1 r7 hrg f1 f2 hli hcm hlen hgr hc hvl hsz0 hgl
   go_upto_region 6 with (with_reducible refine wpList_load_mid rfl 55 (.tmp 17) rfl g (k * 20) rfl _ _ HRG.out underlying55 rfl (by kernel_rfl) ?_)
   clear hst HRG
   generalize wr.alloc (.cells (clC c) 55) = Y0 at *
   have c0 := iCells0 HS1.out.rO
   have hrg := range_of HR7.out 0 (clC c).toList rfl
   have HRG := hide hrg
   clear hrg
   have rb : Row1 clL (Y0.alloc (.cells (clC c) 55)) (Y0.heap.size + 1) (some ⟨Y0.heap.size, 0, none⟩) [c] := ⟨fun _ => ⟨Y0.heap.size, 0, rfl, by omega, fun j u hu => by
    rw [Nat.zero_add, cell_of_row _ _ _ _ _ _ (heap_alloc_new Y0 _), ← Array.getElem?_toList]
    rw [clL.flat_cons, clL.flat_nil, List.append_nil] at hu
    exact hu⟩⟩
   have hbn := nwB Y0 (.cells (clC c) 55)
   have ho1 := HS1.out.own.below hbn
   have hsz : B ≤ (Y0.alloc (.cells (clC c) 55)).heap.size := by
    have h1 := HBT.out
    have h2 := HSZ0.out
    rw [World.size_alloc]
    omega
   have hcz : (clC c).size = 20 := rfl
   have HRB := hide rb; have HBN := hide hbn; have HO1 := hide ho1
   clear rb hbn ho1
   go_wp2_with (first | (with_reducible refine wpList_load_mid rfl 55 (.tmp 7) rfl wr.heap.size 0 rfl _ _ HRG.out underlying55 rfl (by kernel_rfl) ?_) | (at_builtin; rw [fold_cl]; go_loud (refine step_app1 (L := clL) rfl (.tmp 19) (.tmp 21) 30 55 _ 248 rfl underlying30 clauseInfo rfl (by decide) B (Y0.heap.size + 1) _ li [c] rfl HO1.out (some ⟨Y0.heap.size, 0, none⟩) 1 1 rfl rfl HRB.out (by have := HGL.out; have := HLEN.out; omega) (by decide) hsz ?_)))
   intro v1 w1 h1 h2 h3 h4
   clear c0 hsz hcz
   have hS1 := HS1.out.below HBN.out
   obtain ⟨A6, c6, hv6, _, _⟩ := h1.row
   have hlv : (li ++ [c]).length = gl + 1 := by rw [List.length_append, HGL.out]; rfl
   rw [hlv] at hv6
   subst hv6
   have hob1 : some ob ≠ (Value.slice A5 gl c5).ownBlock := fun e => (hS1.tagC hS1.own).2.1 e.symm
   have rO1 : w1.heap[ob]? = some (.cells #[.slice A5 gl c5] 30 (0, 0)) := (h3.block ob (lt_of_block hS1.rO) hob1).trans hS1.rO
   have hst := store_part (ty := 30) w1 ob 0 #[.slice A5 gl c5] (.slice A6 (gl + 1) c6) #[.slice A6 (gl + 1) c6] rO1 (by kernel_rfl) (Nat.le_refl _) (one_slice _ _ _) rfl
   obtain ⟨hS5, hF5⟩ := hS1.append h3 h1 (by rw [World.size_alloc]; exact h4)
   have hF5 := hF5 c.id.count h2
   have hne7 : wr.heap.size ≠ ob := by omega
   have r75 : (w1.setRow ob #[.slice A6 (gl + 1) c6]).heap[wr.heap.size]? = some (.cells (clC c) 55 (0, 0)) := by
    have e1 := iNext HR7.out HBN.out
    have e2 := h3.block wr.heap.size (lt_of_block e1) (fun e => by have := HVL.out _ e.symm; omega)
    exact (setRow_other w1 ob _ _ hne7).trans (e2.trans e1)
   have hF6 : LsF B mb ob (Value.slice A5 gl c5).ownBlock c.id.count wr (w1.setRow ob #[.slice A6 (gl + 1) c6]) := by
    have f1 : LsF B mb ob (Value.slice A5 gl c5).ownBlock c.id.count wr Y0 := LsF.of_below HB1.out (by have := HBT.out; omega) HS0.out.kid.lt
    have f2 : LsF B mb ob (Value.slice A5 gl c5).ownBlock c.id.count Y0 (Y0.alloc (.cells (clC c) 55)) := LsF.of_below HBN.out (by have := HBT.out; have := HSZ0.out; omega) HS1.out.kid.lt
    exact (f1.trans f2 (.refl _ _) (Int.le_refl _)).trans hF5 (.refl _ _) (Int.le_refl _)
   have hN6 : NewO wr.heap.size (Value.slice A5 gl c5).ownBlock (Value.slice A6 (gl + 1) c6).ownBlock := by
    rcases h4 with h4 | h4
    ·exact .inl h4
    ·exact .inr ⟨_, h4, by have := HSZ0.out; omega⟩
   have HS5 := hide hS5; have HF6 := hide hF6; have HN6 := hide hN6; have HR75 := hide r75
   clear hS1 h1 h2 h3 h4 hlv hob1 rO1 hS5 hF5 hF6 hN6 r75
   go_upto_region 7 with (fail)
   clear hst
   generalize w1.setRow ob #[.slice A6 (gl + 1) c6] = Y5 at *
   have k0 : Y5.cell? ⟨wr.heap.size, 0, none⟩ = some (.int .i64 c.id.seat) := cell_of_row _ _ 0 _ _ _ HR75.out
   have k1 : Y5.cell? ⟨wr.heap.size, 1, none⟩ = some (.int .i64 c.id.count) := cell_of_row _ _ 1 _ _ _ HR75.out
   have kf := iCells0 HS5.out.rK
   go_wp2_with fail
   refine (HIH.out c HCM.out _ (li ++ [c]) Y5 (by rw [List.length_append, HGL.out]; exact HLEN.out) HS5.out).mono ?_
   rintro e Z ⟨rfl, hq⟩
   have HZ := hide (LsL.next HWN.out HRW.out HS0.out HFF.out HNN.out HLI.out.symm (LsQ.more HF6.out HN6.out rfl hq) (HMF.out c HCM.out).1)
   clear hq k0 k1 kf
   go_wp2_with fail
   go_roundw
   case rel => exact ⟨k + 1, by omega, by go_num, by rw [HF1.out]; exact HZ⟩
   case measure => simp [intOf]; omega
  ·obtain rfl : k = n := by omega
   go_wp2
   go_end0
   refine ⟨rfl, ?_⟩
   rw [← HL2.out]
   have := HQ.out.2.2
   rw [List.take_of_length_le (Nat.le_of_eq HN2.out)] at this
   exact this
theorem kid_up {pg : List Dg.Cl} (hok : ∀ c ∈ pg, Dg.clOk c = true) {d : Dg.Sp} {c : Dg.Cl} (hc : c ∈ Dg.kidsC pg d) : d.count + 1 ≤ c.id.count ∧ c.id.count ≤ 1000000 ∧ SpW c.id := by
 obtain ⟨h1, h2⟩ := Dg.mem_kidsC.1 hc
 have h3 := Dg.spOk_count (Dg.clOk_id (hok c h1))
 refine ⟨?_, h3.2, sp_w (Dg.clOk_id (hok c h1))⟩
 rcases Dg.clOk_up (hok c h1) with e | e
 ·rw [h2] at e
  rw [e]
  exact h3.1
 ·rw [h2] at e
  omega
theorem walk_all (B mb cb ob kb : Nat) (pg V : List Dg.Cl) (hV : V.Perm pg) (hnd : Dg.NdC pg) (hok : ∀ c ∈ pg, Dg.clOk c = true) (hpl : pg.length ≤ 100000) :
  ∀ (f : Nat) (d : Dg.Sp), SpW d → 1000001 ≤ d.count + (f : Int) → ∀ (vo : Value) (lo : List Dg.Cl) (X : World), lo.length + (Dg.walkC pg f d).length ≤ 100000 → LsS B mb cb ob kb V vo lo X →
   Calls Tryz.prog 56 #[.agg #[.int .i64 d.seat, .int .i64 d.count], .pointer (some ⟨cb, 0, none⟩), .pointer (some ⟨ob, 0, none⟩), .pointer (some ⟨kb, 0, none⟩)] X fun e Y => e = .returned (.tuple #[]) ∧ LsQ B mb cb ob kb V vo lo (Dg.walkC pg f d) d.count X Y
 | 0, ⟨a, b⟩, hd, hf, vo, lo, X, hl, hS => by
  have h0 : Dg.kidsC pg ⟨a, b⟩ = [] := List.eq_nil_iff_forall_not_mem.2 fun c hc => by
   have h1 := kid_up hok hc
   have h2 : 1000001 ≤ b := by simpa using hf
   have h3 : b + 1 ≤ c.id.count := h1.1
   omega
  have h := walk_step B mb cb ob kb pg V hV hnd hok hpl a b hd (fun _ => []) (fun c hc => by rw [h0] at hc; cases hc) vo lo X (by rw [h0]; exact hl) hS
  rw [h0] at h
  exact h
 | f + 1, ⟨a, b⟩, hd, hf, vo, lo, X, hl, hS =>
  walk_step B mb cb ob kb pg V hV hnd hok hpl a b hd (fun c => Dg.walkC pg f c.id) (fun c hc vo lo X hl hS => by
   have h1 := kid_up hok hc
   have h2 : b + 1 ≤ c.id.count := h1.1
   have h3 : 1000001 ≤ b + ((f + 1 : Nat) : Int) := hf
   exact walk_all B mb cb ob kb pg V hV hnd hok hpl f c.id h1.2.2 (by omega) vo lo X hl hS) vo lo X hl hS
end Go.Proofs.YtkpbofnnnihbeaaGreat

