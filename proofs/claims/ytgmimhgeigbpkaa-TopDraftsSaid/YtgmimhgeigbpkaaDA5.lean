/- Walks and laws of this seat, several texts in one. No conditions but those that each theorem states. -/
import Derived.Test.YtgmimhgeigbpkaaDA4
import Derived.Maps.Own
import Derived.Maps.OwnOps
import Derived.Maps.Views
import Derived.WideKeyArr
/- Apply of package patch: texts. No conditions but those that each theorem states. -/
namespace Go.Proofs.Ytgmimhgeigbpkaa
open Go Go.RowKit Go.Sort Go.Maps
set_option maxRecDepth 100000 in
set_option maxHeartbeats 8000000 in
attribute [-go_sem] Instr.storeAt in
theorem apply_replace (l : List Dg.It) (A : Option Addr) (n c : Nat) (hl : l.length = n) (hn : n ≤ 1048576) (hw : ∀ x ∈ l, ItW x) (p : Dg.Pt) (hp : PtW p) (h2 : p.kind ≠ 2) (hv : Dg.validC l = true) (y : Dg.It) (hy : Dg.itemA l p.id = y) (hf : Dg.formedP p = true) (i : Nat) (hi : Dg.idxI l p.id = some i) (hk : p.kind = 7) (y0 : (y.kind == 0) = false) (y1 : (y.kind == 1) = false) (yg : y.gone = false) (hN : ¬ (400 : Int) < (p.item.north.size : Int)) (hS : ¬ (400 : Int) < (p.item.south.size : Int))  (w : World) (hI : Its w w.heap.size A l) :
  Calls Try.prog 11 #[.agg #[.slice A n c], .agg #[.int .i64 p.1, .string p.2, .string p.3, .string p.4, .string p.5, .int .i64 p.6.1, .string p.6.2, .string p.6.3, .string p.6.4, .string p.6.5, .string p.6.6, .bool p.6.7, .int .i64 p.7, .string p.8, .string p.9]] w (ApR (l.set i { y with north := p.item.north, south := p.item.south }, 0) w) := by
 obtain ⟨r1, r2, r3, hb1, hs⟩ := iAlloc3 w (.cells #[.slice A n c] 24) (.cells #[.int .i64 p.1, .string p.2, .string p.3, .string p.4, .string p.5, .int .i64 p.6.1, .string p.6.2, .string p.6.3, .string p.6.4, .string p.6.5, .string p.6.6, .bool p.6.7, .int .i64 p.7, .string p.8, .string p.9] 39) (.cells #[.slice none 0 0] 24)
 have hS1 : ApS w.heap.size A n c l p (((w.alloc (.cells #[.slice A n c] 24)).alloc (.cells #[.int .i64 p.1, .string p.2, .string p.3, .string p.4, .string p.5, .int .i64 p.6.1, .string p.6.2, .string p.6.3, .string p.6.4, .string p.6.5, .string p.6.6, .bool p.6.7, .int .i64 p.7, .string p.8, .string p.9] 39)).alloc (.cells #[.slice none 0 0] 24)) := ⟨r1, r2, r3, hI.keep hb1⟩
 have hmx : Try.prog.follows .mixedOrders = true := by kernel_rfl
 have HK := hide hk
 have k1 : (p.kind != 1) = true := by rw [hk]; rfl
 have k6 : (p.kind == 6) = false := by rw [hk]; rfl
 have k6n : (p.kind != 6) = true := by rw [hk]; rfl
 have hil : i < n := by obtain ⟨h, _⟩ := Dg.idxI_some hi; omega
 have hyi : l.getD i Dg.zeroI = y := by rw [← hy]; unfold Dg.itemA; rw [hi]
 have HK0 := hide (findX_idx hi); have HIX := hide hi; have HYI := hide hyi; have HY := hide hy; have YG := hide yg
 clear hk hyi hi hy yg
 have HS := hide hs; have HL := hide hl; have HW := hide hw; have HP := hide hp; have H2 := hide h2; have HV := hide hv
 clear r1 r2 r3 hs hI hl hw hp h2 hv
 have HF := hide hf
 clear hf
 have c1 := iCells0 hS1.r1
 go_enter Try.func11, Try.ntmps11
 go_wp2_with fail
 generalize ((w.alloc (.cells #[.slice A n c] 24)).alloc (.cells #[.int .i64 p.1, .string p.2, .string p.3, .string p.4, .string p.5, .int .i64 p.6.1, .string p.6.2, .string p.6.3, .string p.6.4, .string p.6.5, .string p.6.6, .bool p.6.7, .int .i64 p.7, .string p.8, .string p.9] 39)).alloc (.cells #[.slice none 0 0] 24) = w1 at *
 refine (Code.valid_of l A n c HL.out HW.out hn w1 hS1.its true HV.out).mono ?_
 rintro e w2 ⟨rfl, hbq⟩
 have hS2 := hS1.below hbq
 have hb2 := bnext hb1 hbq
 have hsz : w.heap.size + 3 ≤ w2.heap.size := by have := hbq.size; have := HS.out; omega
 clear hbq hS1 hb1 c1 HS
 have hL2 := hide (range_of hS2.r2 0 [.int .i64 p.1, .string p.2, .string p.3, .string p.4, .string p.5, .int .i64 p.6.1, .string p.6.2, .string p.6.3, .string p.6.4, .string p.6.5, .string p.6.6, .bool p.6.7, .int .i64 p.7, .string p.8, .string p.9] rfl)
 go_wp2_with (refine wpList_load_midW 39 (.tmp 3) rfl (by rfl) (w.heap.size + 1) 0 rfl _ _ hL2.out Try.underlying39 rfl (by kernel_rfl) ?_)
 clear hL2
 refine (formed_of p HP.out H2.out true HF.out w2).mono ?_
 rintro e w3 ⟨rfl, hbq⟩
 have hS3 := hS2.below hbq
 have hb3 := bnext hb2 hbq
 have hsz3 : w.heap.size + 3 ≤ w3.heap.size := by have := hbq.size; omega
 clear hbq hS2 hb2 hsz
 have HSK := hide (fun X (hX : Below w3.heap.size w3 X) => hS3.below hX)
 go_upto_region 3 with (fail)
 go_cut [6] from 18 to 24 (fun v6 wx => ∃ b6 : Nat, v6 = .pointer (some ⟨b6, 0, none⟩) ∧ w3.heap.size ≤ b6 ∧ wx.heap[b6]? = some (.cells #[.slice A n c, .int .i64 p.1, .string p.2, .string p.3, .string p.4, .string p.5, .int .i64 p.6.1, .string p.6.2, .string p.6.3, .string p.6.4, .string p.6.5, .string p.6.6, .bool p.6.7, .int .i64 p.7, .string p.8, .string p.9, .int .i64 i] 68 (0, 0)) ∧ Below w3.heap.size w3 wx)
 case first =>
  refine wp_region_noPanic ?_
  refine wp_region_L (Below w3.heap.size w3) 9 hmx ?_
  have hH0 : (Below w3.heap.size w3) w3.drew := (Below.refl w3.heap.size w3).drew
  generalize w3.drew = u0 at *
  refine tkY 0 11 ?_ rfl ?_ hH0 ?_
  rotate_left
  ·intro wS hS; have c1 := iCells0 (HSK.out _ hS).r1; go_simp; (try with_reducible rfl)
  simp only [Act.put, pu1, pu2, pu3, pu4, pu5, pu6]
  refine tkV 1 11 (.agg #[.int .i64 p.1, .string p.2, .string p.3, .string p.4, .string p.5, .int .i64 p.6.1, .string p.6.2, .string p.6.3, .string p.6.4, .string p.6.5, .string p.6.6, .bool p.6.7, .int .i64 p.7, .string p.8, .string p.9]) rfl (by exact yieldsIf_load_mid (by rfl) 39 (.tmp 3) rfl (w.heap.size + 1) 0 rfl [.int .i64 p.1, .string p.2, .string p.3, .string p.4, .string p.5, .int .i64 p.6.1, .string p.6.2, .string p.6.3, .string p.6.4, .string p.6.5, .string p.6.6, .bool p.6.7, .int .i64 p.7, .string p.8, .string p.9] _ (fun X hX => range_of (HSK.out X hX).r2 0 [.int .i64 p.1, .string p.2, .string p.3, .string p.4, .string p.5, .int .i64 p.6.1, .string p.6.2, .string p.6.3, .string p.6.4, .string p.6.5, .string p.6.6, .bool p.6.7, .int .i64 p.7, .string p.8, .string p.9] rfl) Try.underlying39 rfl (by kernel_rfl)) hH0 ?_
  simp only [Act.put, pu1, pu2, pu3, pu4, pu5, pu6]
  refine tkY 2 11 ?_ rfl ?_ hH0 ?_
  rotate_left
  ·intro wS hS; have c1 := iCells0 (HSK.out _ hS).r1; go_simp; (try with_reducible rfl)
  simp only [Act.put, pu1, pu2, pu3, pu4, pu5, pu6]
  refine tkY 3 11 ?_ rfl ?_ hH0 ?_
  rotate_left
  ·intro wS hS; go_simp; (try with_reducible rfl)
  simp only [Act.put, pu1, pu2, pu3, pu4, pu5, pu6]
  refine tkY 4 11 ?_ rfl ?_ hH0 ?_
  rotate_left
  ·intro wS hS; have k1 := (jC15 (HSK.out _ hS).r2).2.1; go_simp; (try with_reducible rfl)
  simp only [Act.put, pu1, pu2, pu3, pu4, pu5, pu6]
  refine wpAnyL_duo (i := 5) (j := 7) (by decide +kernel) (by rfl) (by rfl) (fun K hK => ?_) (fun K hK => ?_)
  ·rw [if_pos (by rfl)]
   go_simp
   refine (Code.find_of l A n c HL.out hn p.id u0 (HSK.out _ hH0).its (i : Int) HK0.out).mono ?_
   rintro e u1 ⟨rfl, hx1⟩
   have hH1 := hH0.trans (hx1.mono hH0.size)
   refine hK.out _ _ (Or.inr hH1) ?_
   clear hK K hx1
   try simp only [Act.put, pu1, pu2, pu3, pu4, pu5, pu6]
   refine tkY 6 11 ?_ rfl ?_ hH1 ?_
   rotate_left
   ·intro wS hS; go_simp; (try with_reducible rfl)
   simp only [Act.put, pu1, pu2, pu3, pu4, pu5, pu6]
   refine onY 7 (by rfl) fun K hK => ?_
   go_simp
   have hx2 := Below.news (Below.refl u1.heap.size u1) (.cells #[.slice none 0 0, .int .i64 0, .string ⟨#[]⟩, .string ⟨#[]⟩, .string ⟨#[]⟩, .string ⟨#[]⟩, .int .i64 0, .string ⟨#[]⟩, .string ⟨#[]⟩, .string ⟨#[]⟩, .string ⟨#[]⟩, .string ⟨#[]⟩, .bool false, .int .i64 0, .string ⟨#[]⟩, .string ⟨#[]⟩, .int .i64 0] 68)
   have hr2 := heap_alloc_new u1 (.cells #[.slice none 0 0, .int .i64 0, .string ⟨#[]⟩, .string ⟨#[]⟩, .string ⟨#[]⟩, .string ⟨#[]⟩, .int .i64 0, .string ⟨#[]⟩, .string ⟨#[]⟩, .string ⟨#[]⟩, .string ⟨#[]⟩, .string ⟨#[]⟩, .bool false, .int .i64 0, .string ⟨#[]⟩, .string ⟨#[]⟩, .int .i64 0] 68)
   have hg2 : w3.heap.size ≤ u1.heap.size := hH1.size
   have hH2 := hH1.trans (hx2.mono hH1.size)
   refine hK.out _ _ (Or.inr hH2) ?_
   clear hK K hx2
   try simp only [Act.put, pu1, pu2, pu3, pu4, pu5, pu6]
   generalize u1.alloc (.cells #[.slice none 0 0, .int .i64 0, .string ⟨#[]⟩, .string ⟨#[]⟩, .string ⟨#[]⟩, .string ⟨#[]⟩, .int .i64 0, .string ⟨#[]⟩, .string ⟨#[]⟩, .string ⟨#[]⟩, .string ⟨#[]⟩, .string ⟨#[]⟩, .bool false, .int .i64 0, .string ⟨#[]⟩, .string ⟨#[]⟩, .int .i64 0] 68) = u2 at *
   generalize u1.heap.size = g2 at *
   refine onY 8 (by rfl) fun K hK => ?_
   have hst := store_part (ty := 68) u2 g2 0 #[.slice none 0 0, .int .i64 0, .string ⟨#[]⟩, .string ⟨#[]⟩, .string ⟨#[]⟩, .string ⟨#[]⟩, .int .i64 0, .string ⟨#[]⟩, .string ⟨#[]⟩, .string ⟨#[]⟩, .string ⟨#[]⟩, .string ⟨#[]⟩, .bool false, .int .i64 0, .string ⟨#[]⟩, .string ⟨#[]⟩, .int .i64 0] (.agg #[.slice A n c, .int .i64 p.1, .string p.2, .string p.3, .string p.4, .string p.5, .int .i64 p.6.1, .string p.6.2, .string p.6.3, .string p.6.4, .string p.6.5, .string p.6.6, .bool p.6.7, .int .i64 p.7, .string p.8, .string p.9, .int .i64 i]) #[.slice A n c, .int .i64 p.1, .string p.2, .string p.3, .string p.4, .string p.5, .int .i64 p.6.1, .string p.6.2, .string p.6.3, .string p.6.4, .string p.6.5, .string p.6.6, .bool p.6.7, .int .i64 p.7, .string p.8, .string p.9, .int .i64 i] hr2 infoCh17 (Nat.le_refl _) (one_change A n c p (i : Int)) rfl
   go_simp
   clear hst
   have hr3 := setRow_heap u2 g2 _ #[.slice A n c, .int .i64 p.1, .string p.2, .string p.3, .string p.4, .string p.5, .int .i64 p.6.1, .string p.6.2, .string p.6.3, .string p.6.4, .string p.6.5, .string p.6.6, .bool p.6.7, .int .i64 p.7, .string p.8, .string p.9, .int .i64 i] _ _ hr2
   have hH3 := below_setRow hH2 hg2 (g := g2) #[.slice A n c, .int .i64 p.1, .string p.2, .string p.3, .string p.4, .string p.5, .int .i64 p.6.1, .string p.6.2, .string p.6.3, .string p.6.4, .string p.6.5, .string p.6.6, .bool p.6.7, .int .i64 p.7, .string p.8, .string p.9, .int .i64 i]
   refine hK.out _ _ (Or.inr hH3) ?_
   clear hK K
   try simp only [Act.put, pu1, pu2, pu3, pu4, pu5, pu6]
   refine dnY ?_
   go_wp2_with fail
   go_meet
   case rel => exact ⟨g2, rfl, hg2, hr3, hH3⟩
  ·rw [if_pos (by rfl)]
   go_simp
   have hx2 := Below.news (Below.refl u0.heap.size u0) (.cells #[.slice none 0 0, .int .i64 0, .string ⟨#[]⟩, .string ⟨#[]⟩, .string ⟨#[]⟩, .string ⟨#[]⟩, .int .i64 0, .string ⟨#[]⟩, .string ⟨#[]⟩, .string ⟨#[]⟩, .string ⟨#[]⟩, .string ⟨#[]⟩, .bool false, .int .i64 0, .string ⟨#[]⟩, .string ⟨#[]⟩, .int .i64 0] 68)
   have hr1 := heap_alloc_new u0 (.cells #[.slice none 0 0, .int .i64 0, .string ⟨#[]⟩, .string ⟨#[]⟩, .string ⟨#[]⟩, .string ⟨#[]⟩, .int .i64 0, .string ⟨#[]⟩, .string ⟨#[]⟩, .string ⟨#[]⟩, .string ⟨#[]⟩, .string ⟨#[]⟩, .bool false, .int .i64 0, .string ⟨#[]⟩, .string ⟨#[]⟩, .int .i64 0] 68)
   have hg2 : w3.heap.size ≤ u0.heap.size := hH0.size
   have hH1 := hH0.trans (hx2.mono hH0.size)
   refine hK.out _ _ (Or.inr hH1) ?_
   clear hK K hx2
   try simp only [Act.put, pu1, pu2, pu3, pu4, pu5, pu6]
   generalize u0.alloc (.cells #[.slice none 0 0, .int .i64 0, .string ⟨#[]⟩, .string ⟨#[]⟩, .string ⟨#[]⟩, .string ⟨#[]⟩, .int .i64 0, .string ⟨#[]⟩, .string ⟨#[]⟩, .string ⟨#[]⟩, .string ⟨#[]⟩, .string ⟨#[]⟩, .bool false, .int .i64 0, .string ⟨#[]⟩, .string ⟨#[]⟩, .int .i64 0] 68) = u1 at *
   generalize u0.heap.size = g2 at *
   refine onY 5 (by rfl) fun K hK => ?_
   go_simp
   refine (Code.find_of l A n c HL.out hn p.id u1 (HSK.out _ hH1).its (i : Int) HK0.out).mono ?_
   rintro e u2 ⟨rfl, hx1⟩
   have hH2 := hH1.trans (hx1.mono hH1.size)
   have hr2 := iNext hr1 hx1
   refine hK.out _ _ (Or.inr hH2) ?_
   clear hK K hx1
   try simp only [Act.put, pu1, pu2, pu3, pu4, pu5, pu6]
   refine tkY 6 11 ?_ rfl ?_ hH2 ?_
   rotate_left
   ·intro wS hS; go_simp; (try with_reducible rfl)
   simp only [Act.put, pu1, pu2, pu3, pu4, pu5, pu6]
   refine onY 8 (by rfl) fun K hK => ?_
   have hst := store_part (ty := 68) u2 g2 0 #[.slice none 0 0, .int .i64 0, .string ⟨#[]⟩, .string ⟨#[]⟩, .string ⟨#[]⟩, .string ⟨#[]⟩, .int .i64 0, .string ⟨#[]⟩, .string ⟨#[]⟩, .string ⟨#[]⟩, .string ⟨#[]⟩, .string ⟨#[]⟩, .bool false, .int .i64 0, .string ⟨#[]⟩, .string ⟨#[]⟩, .int .i64 0] (.agg #[.slice A n c, .int .i64 p.1, .string p.2, .string p.3, .string p.4, .string p.5, .int .i64 p.6.1, .string p.6.2, .string p.6.3, .string p.6.4, .string p.6.5, .string p.6.6, .bool p.6.7, .int .i64 p.7, .string p.8, .string p.9, .int .i64 i]) #[.slice A n c, .int .i64 p.1, .string p.2, .string p.3, .string p.4, .string p.5, .int .i64 p.6.1, .string p.6.2, .string p.6.3, .string p.6.4, .string p.6.5, .string p.6.6, .bool p.6.7, .int .i64 p.7, .string p.8, .string p.9, .int .i64 i] hr2 infoCh17 (Nat.le_refl _) (one_change A n c p (i : Int)) rfl
   go_simp
   clear hst
   have hr3 := setRow_heap u2 g2 _ #[.slice A n c, .int .i64 p.1, .string p.2, .string p.3, .string p.4, .string p.5, .int .i64 p.6.1, .string p.6.2, .string p.6.3, .string p.6.4, .string p.6.5, .string p.6.6, .bool p.6.7, .int .i64 p.7, .string p.8, .string p.9, .int .i64 i] _ _ hr2
   have hH3 := below_setRow hH2 hg2 (g := g2) #[.slice A n c, .int .i64 p.1, .string p.2, .string p.3, .string p.4, .string p.5, .int .i64 p.6.1, .string p.6.2, .string p.6.3, .string p.6.4, .string p.6.5, .string p.6.6, .bool p.6.7, .int .i64 p.7, .string p.8, .string p.9, .int .i64 i]
   refine hK.out _ _ (Or.inr hH3) ?_
   clear hK K
   try simp only [Act.put, pu1, pu2, pu3, pu4, pu5, pu6]
   refine dnY ?_
   go_wp2_with fail
   go_meet
   case rel => exact ⟨g2, rfl, hg2, hr3, hH3⟩
 case rest =>
  obtain ⟨b6, rfl, hb6, r6, hbw⟩ := hcut
  rename World => wq
  have hS4 := HSK.out _ hbw
  have hb4 := bnext hb3 hbw
  clear hbw HSK hS3 hb3
  have hst := store_new (ty := 71) (T := 71) wq #[.nilFunc, .nilFunc, .nilFunc, .nilFunc, .nilFunc, .nilFunc, .nilFunc, .nilFunc] #[.nilFunc, .func (.func 26) #[] #[], .func (.func 27) #[] #[], .func (.func 28) #[] #[], .func (.func 29) #[] #[], .func (.func 30) #[] #[], .func (.func 30) #[] #[], .func (.func 31) #[] #[]] (by kernel_rfl) rfl (by decide +kernel)
  have hb6q := lt_of_block r6
  go_upto_region 5 with (fail)
  clear hst
  have hbn := Below.news (Below.refl wq.heap.size wq) (.cells #[.nilFunc, .func (.func 26) #[] #[], .func (.func 27) #[] #[], .func (.func 28) #[] #[], .func (.func 29) #[] #[], .func (.func 30) #[] #[], .func (.func 30) #[] #[], .func (.func 31) #[] #[]] 71)
  have r7 := heap_alloc_new wq (.cells #[.nilFunc, .func (.func 26) #[] #[], .func (.func 27) #[] #[], .func (.func 28) #[] #[], .func (.func 29) #[] #[], .func (.func 30) #[] #[], .func (.func 30) #[] #[], .func (.func 31) #[] #[]] 71)
  have hS5 := hS4.below hbn
  have r65 := iNext r6 hbn
  have hb5 := bnext hb4 hbn
  clear hbn hS4 r6 hb4
  obtain ⟨b7, hb7⟩ : ∃ b7, b7 = wq.heap.size := ⟨_, rfl⟩
  rw [← hb7] at r7 hb6q ⊢
  have HB7 := hide hb7
  clear hb7
  generalize wq.alloc (.cells #[.nilFunc, .func (.func 26) #[] #[], .func (.func 27) #[] #[], .func (.func 28) #[] #[], .func (.func 29) #[] #[], .func (.func 30) #[] #[], .func (.func 30) #[] #[], .func (.func 31) #[] #[]] 71) = w5 at *
  clear HB7
  have c0 := (jC15 hS5.r2).1
  have k1 := (jC15 hS5.r2).2.1
  have hL6 := hide (range_of r65 0 [.slice A n c, .int .i64 p.1, .string p.2, .string p.3, .string p.4, .string p.5, .int .i64 p.6.1, .string p.6.2, .string p.6.3, .string p.6.4, .string p.6.5, .string p.6.6, .bool p.6.7, .int .i64 p.7, .string p.8, .string p.9, .int .i64 i] rfl)
  go_wp2_with (with_reducible refine wpList_load_mid rfl 68 (.tmp 6) rfl b6 0 rfl _ _ hL6.out Try.underlying68 rfl (by kernel_rfl) ?_)
  refine (item_of l A n c HL.out hn p (i : Int) p.id w5 hS5.its y HY.out).mono ?_
  rintro e w6 ⟨rfl, hbq⟩
  clear hL6 k1 c0
  have hS6 := hS5.below hbq
  have r66 := iNext r65 hbq
  have r76 := iNext r7 hbq
  have hb6' := bnext hb5 hbq
  clear hbq hS5 r65 r7 hb5
  have hst := store_new (ty := 37) (T := 37) w6 #[.int .i64 0, .string ⟨#[]⟩, .string ⟨#[]⟩, .string ⟨#[]⟩, .string ⟨#[]⟩, .string ⟨#[]⟩, .bool false] #[.int .i64 y.1, .string y.2, .string y.3, .string y.4, .string y.5, .string y.6, .bool y.7] (by kernel_rfl) rfl (all_oneCell_toArray (iLay.one y))
  go_upto_region 7 with (fail)
  clear hst
  have hbn := Below.news (Below.refl w6.heap.size w6) (.cells #[.int .i64 y.1, .string y.2, .string y.3, .string y.4, .string y.5, .string y.6, .bool y.7] 37)
  have r8 := heap_alloc_new w6 (.cells #[.int .i64 y.1, .string y.2, .string y.3, .string y.4, .string y.5, .string y.6, .bool y.7] 37)
  have hS7 := hS6.below hbn
  have r67 := iNext r66 hbn
  have r77 := iNext r76 hbn
  have hb7' := bnext hb6' hbn
  clear hbn hS6 r66 r76 hb6'
  obtain ⟨b8, hb8⟩ : ∃ b8, b8 = w6.heap.size := ⟨_, rfl⟩
  rw [← hb8] at r8 ⊢
  have HB8 := hide hb8
  clear hb8
  generalize w6.alloc (.cells #[.int .i64 y.1, .string y.2, .string y.3, .string y.4, .string y.5, .string y.6, .bool y.7] 37) = w7 at *
  clear HB8
  have c0 := (jC15 hS7.r2).1
  obtain ⟨z0, z1, z2, z3, z4, z5, z6⟩ := iCells r8
  clear z1 z2 z3 z4 z5
  have yg := YG.out
  clear YG
  go_upto_region 14 with (fail)
  clear z0 z6 r8
  clear c0
  have HSK2 := hide (fun X (hX : Below w7.heap.size w7 X) => hS7.below hX)
  have HR6 := hide (fun X (hX : Below w7.heap.size w7 X) => iNext r67 hX)
  have HR7 := hide (fun X (hX : Below w7.heap.size w7 X) => iNext r77 hX)
  have hsz5 := lt_of_block hS7.r3
  refine wp_region_noPanic ?_
  refine wp_region_L (Below w7.heap.size w7) 8 hmx ?_
  have hH0 : (Below w7.heap.size w7) w7.drew := (Below.refl w7.heap.size w7).drew
  generalize w7.drew = u0 at *
  refine tkY 0 12 ?_ rfl ?_ hH0 ?_
  rotate_left
  ·intro wS hS; go_simp; (try with_reducible rfl)
  simp only [Act.put, pu1, pu2, pu3, pu4, pu5, pu6]
  refine tkY 1 12 ?_ rfl ?_ hH0 ?_
  rotate_left
  ·intro wS hS; have c0 := (jC15 (HSK2.out _ hS).r2).1; go_simp; (try with_reducible rfl)
  simp only [Act.put, pu1, pu2, pu3, pu4, pu5, pu6]
  refine tkY 2 12 ?_ rfl ?_ hH0 ?_
  rotate_left
  ·intro wS hS; have hk := HK.out; go_simp; (try with_reducible rfl)
  simp only [Act.put, pu1, pu2, pu3, pu4, pu5, pu6]
  refine tkY 3 12 ?_ rfl ?_ hH0 ?_
  rotate_left
  ·intro wS hS; have cf := cell_of_row _ _ 7 _ _ (0, 0) (HR7.out _ hS); go_simp; (try with_reducible rfl)
  simp only [Act.put, pu1, pu2, pu3, pu4, pu5, pu6]
  refine tkV 4 12 (.agg #[.slice A n c, .int .i64 p.1, .string p.2, .string p.3, .string p.4, .string p.5, .int .i64 p.6.1, .string p.6.2, .string p.6.3, .string p.6.4, .string p.6.5, .string p.6.6, .bool p.6.7, .int .i64 p.7, .string p.8, .string p.9, .int .i64 i]) rfl (by exact yieldsIf_load_mid (by rfl) 68 (.tmp 6) rfl b6 0 rfl [.slice A n c, .int .i64 p.1, .string p.2, .string p.3, .string p.4, .string p.5, .int .i64 p.6.1, .string p.6.2, .string p.6.3, .string p.6.4, .string p.6.5, .string p.6.6, .bool p.6.7, .int .i64 p.7, .string p.8, .string p.9, .int .i64 i] _ (fun X hX => range_of (HR6.out X hX) 0 [.slice A n c, .int .i64 p.1, .string p.2, .string p.3, .string p.4, .string p.5, .int .i64 p.6.1, .string p.6.2, .string p.6.3, .string p.6.4, .string p.6.5, .string p.6.6, .bool p.6.7, .int .i64 p.7, .string p.8, .string p.9, .int .i64 i] rfl) Try.underlying68 rfl (by kernel_rfl)) hH0 ?_
  simp only [Act.put, pu1, pu2, pu3, pu4, pu5, pu6]
  refine onY 5 (by rfl) fun K hK => ?_
  go_simp
  refine (replace_of l A n c HL.out hn p i hil y HYI.out (by omega) (by omega) u0 (HSK2.out _ hH0).its).mono ?_
  rintro e u1 ⟨v', rfl, hO, hx1⟩
  have hH1 := hH0.trans (hx1.mono hH0.size)
  have hszu := hH0.size
  refine hK.out _ _ (Or.inr hH1) ?_
  clear hK K hx1
  try simp only [Act.put, pu1, pu2, pu3, pu4, pu5, pu6]
  refine tkY 6 12 ?_ rfl ?_ hH1 ?_
  rotate_left
  ·intro wS hS; go_simp; (try with_reducible rfl)
  simp only [Act.put, pu1, pu2, pu3, pu4, pu5, pu6]
  refine tkY 7 12 ?_ rfl ?_ hH1 ?_
  rotate_left
  ·intro wS hS; go_simp; (try with_reducible rfl)
  simp only [Act.put, pu1, pu2, pu3, pu4, pu5, pu6]
  refine onY 8 (by rfl) fun K hK => ?_
  obtain ⟨A', c', hv', _, _⟩ := hO.row
  obtain ⟨m', hm'⟩ : ∃ m', (l.set i { y with north := p.item.north, south := p.item.south }, 0).1.length = m' := ⟨_, rfl⟩
  rw [hm'] at hv'
  clear hm'
  subst hv'
  have hst := store_part (ty := 24) u1 (w.heap.size + 1 + 1) 0 #[.slice none 0 0] (.agg #[.slice A' m' c']) #[.slice A' m' c'] (HSK2.out _ hH1).r3 infoCode1 (Nat.le_refl _) (one_code _ _ _) rfl
  have r25 := setRow_heap u1 (w.heap.size + 1 + 1) _ #[.slice A' m' c'] _ _ (HSK2.out _ hH1).r3
  have hb8 := below_setRow (bnext hb7' hH1) (by omega) (g := w.heap.size + 1 + 1) #[.slice A' m' c']
  have HO2 := hide (own_other hO (g := w.heap.size + 1 + 1) (fun e => by have := (World.ownsRow.lt hO _ e).1; omega) #[.slice A' m' c'])
  go_simp
  clear hst hO
  refine hK.out _ _ (Or.inl (by rfl)) ?_
  clear hK K hH1
  generalize u1.setRow (w.heap.size + 1 + 1) #[.slice A' m' c'] = u2 at *
  try simp only [Act.put, pu1, pu2, pu3, pu4, pu5, pu6]
  refine onY 9 (by rfl) fun K hK => ?_
  go_simp
  refine hK.out _ _ (Or.inl (by rfl)) ?_
  clear hK K
  try simp only [Act.put, pu1, pu2, pu3, pu4, pu5, pu6]
  refine dnY ?_
  have hsz0 : w.heap.size ≤ u0.heap.size := by have := hH0.size; omega
  go_wp2
  refine bodyPost_ret (results_c8 Try.results11 _ _ (w.heap.size + 1 + 1) 24 #[.slice A' m' c'] (0, 0) _ rfl r25 Try.underlying24 (by kernel_rfl)) rfl ⟨_, rfl, own_weak HO2.out (by omega), hb8⟩
set_option maxRecDepth 100000 in
set_option maxHeartbeats 8000000 in
attribute [-go_sem] Instr.storeAt in
theorem apply_replace_n (l : List Dg.It) (A : Option Addr) (n c : Nat) (hl : l.length = n) (hn : n ≤ 1048576) (hw : ∀ x ∈ l, ItW x) (p : Dg.Pt) (hp : PtW p) (h2 : p.kind ≠ 2) (hv : Dg.validC l = true) (y : Dg.It) (hy : Dg.itemA l p.id = y) (hf : Dg.formedP p = true) (i : Nat) (hi : Dg.idxI l p.id = some i) (hk : p.kind = 7) (y0 : (y.kind == 0) = false) (y1 : (y.kind == 1) = false) (yg : y.gone = false) (hN : (400 : Int) < (p.item.north.size : Int))  (w : World) (hI : Its w w.heap.size A l) :
  Calls Try.prog 11 #[.agg #[.slice A n c], .agg #[.int .i64 p.1, .string p.2, .string p.3, .string p.4, .string p.5, .int .i64 p.6.1, .string p.6.2, .string p.6.3, .string p.6.4, .string p.6.5, .string p.6.6, .bool p.6.7, .int .i64 p.7, .string p.8, .string p.9]] w (ApR (([] : List Dg.It), (2 : Int)) w) := by
 obtain ⟨r1, r2, r3, hb1, hs⟩ := iAlloc3 w (.cells #[.slice A n c] 24) (.cells #[.int .i64 p.1, .string p.2, .string p.3, .string p.4, .string p.5, .int .i64 p.6.1, .string p.6.2, .string p.6.3, .string p.6.4, .string p.6.5, .string p.6.6, .bool p.6.7, .int .i64 p.7, .string p.8, .string p.9] 39) (.cells #[.slice none 0 0] 24)
 have hS1 : ApS w.heap.size A n c l p (((w.alloc (.cells #[.slice A n c] 24)).alloc (.cells #[.int .i64 p.1, .string p.2, .string p.3, .string p.4, .string p.5, .int .i64 p.6.1, .string p.6.2, .string p.6.3, .string p.6.4, .string p.6.5, .string p.6.6, .bool p.6.7, .int .i64 p.7, .string p.8, .string p.9] 39)).alloc (.cells #[.slice none 0 0] 24)) := ⟨r1, r2, r3, hI.keep hb1⟩
 have hmx : Try.prog.follows .mixedOrders = true := by kernel_rfl
 have HK := hide hk
 have k1 : (p.kind != 1) = true := by rw [hk]; rfl
 have k6 : (p.kind == 6) = false := by rw [hk]; rfl
 have k6n : (p.kind != 6) = true := by rw [hk]; rfl
 have hil : i < n := by obtain ⟨h, _⟩ := Dg.idxI_some hi; omega
 have hyi : l.getD i Dg.zeroI = y := by rw [← hy]; unfold Dg.itemA; rw [hi]
 have HK0 := hide (findX_idx hi); have HIX := hide hi; have HYI := hide hyi; have HY := hide hy; have YG := hide yg
 clear hk hyi hi hy yg
 have HS := hide hs; have HL := hide hl; have HW := hide hw; have HP := hide hp; have H2 := hide h2; have HV := hide hv
 clear r1 r2 r3 hs hI hl hw hp h2 hv
 have HF := hide hf
 clear hf
 have c1 := iCells0 hS1.r1
 go_enter Try.func11, Try.ntmps11
 go_wp2_with fail
 generalize ((w.alloc (.cells #[.slice A n c] 24)).alloc (.cells #[.int .i64 p.1, .string p.2, .string p.3, .string p.4, .string p.5, .int .i64 p.6.1, .string p.6.2, .string p.6.3, .string p.6.4, .string p.6.5, .string p.6.6, .bool p.6.7, .int .i64 p.7, .string p.8, .string p.9] 39)).alloc (.cells #[.slice none 0 0] 24) = w1 at *
 refine (Code.valid_of l A n c HL.out HW.out hn w1 hS1.its true HV.out).mono ?_
 rintro e w2 ⟨rfl, hbq⟩
 have hS2 := hS1.below hbq
 have hb2 := bnext hb1 hbq
 have hsz : w.heap.size + 3 ≤ w2.heap.size := by have := hbq.size; have := HS.out; omega
 clear hbq hS1 hb1 c1 HS
 have hL2 := hide (range_of hS2.r2 0 [.int .i64 p.1, .string p.2, .string p.3, .string p.4, .string p.5, .int .i64 p.6.1, .string p.6.2, .string p.6.3, .string p.6.4, .string p.6.5, .string p.6.6, .bool p.6.7, .int .i64 p.7, .string p.8, .string p.9] rfl)
 go_wp2_with (refine wpList_load_midW 39 (.tmp 3) rfl (by rfl) (w.heap.size + 1) 0 rfl _ _ hL2.out Try.underlying39 rfl (by kernel_rfl) ?_)
 clear hL2
 refine (formed_of p HP.out H2.out true HF.out w2).mono ?_
 rintro e w3 ⟨rfl, hbq⟩
 have hS3 := hS2.below hbq
 have hb3 := bnext hb2 hbq
 have hsz3 : w.heap.size + 3 ≤ w3.heap.size := by have := hbq.size; omega
 clear hbq hS2 hb2 hsz
 have HSK := hide (fun X (hX : Below w3.heap.size w3 X) => hS3.below hX)
 go_upto_region 3 with (fail)
 go_cut [6] from 18 to 24 (fun v6 wx => ∃ b6 : Nat, v6 = .pointer (some ⟨b6, 0, none⟩) ∧ w3.heap.size ≤ b6 ∧ wx.heap[b6]? = some (.cells #[.slice A n c, .int .i64 p.1, .string p.2, .string p.3, .string p.4, .string p.5, .int .i64 p.6.1, .string p.6.2, .string p.6.3, .string p.6.4, .string p.6.5, .string p.6.6, .bool p.6.7, .int .i64 p.7, .string p.8, .string p.9, .int .i64 i] 68 (0, 0)) ∧ Below w3.heap.size w3 wx)
 case first =>
  refine wp_region_noPanic ?_
  refine wp_region_L (Below w3.heap.size w3) 9 hmx ?_
  have hH0 : (Below w3.heap.size w3) w3.drew := (Below.refl w3.heap.size w3).drew
  generalize w3.drew = u0 at *
  refine tkY 0 11 ?_ rfl ?_ hH0 ?_
  rotate_left
  ·intro wS hS; have c1 := iCells0 (HSK.out _ hS).r1; go_simp; (try with_reducible rfl)
  simp only [Act.put, pu1, pu2, pu3, pu4, pu5, pu6]
  refine tkV 1 11 (.agg #[.int .i64 p.1, .string p.2, .string p.3, .string p.4, .string p.5, .int .i64 p.6.1, .string p.6.2, .string p.6.3, .string p.6.4, .string p.6.5, .string p.6.6, .bool p.6.7, .int .i64 p.7, .string p.8, .string p.9]) rfl (by exact yieldsIf_load_mid (by rfl) 39 (.tmp 3) rfl (w.heap.size + 1) 0 rfl [.int .i64 p.1, .string p.2, .string p.3, .string p.4, .string p.5, .int .i64 p.6.1, .string p.6.2, .string p.6.3, .string p.6.4, .string p.6.5, .string p.6.6, .bool p.6.7, .int .i64 p.7, .string p.8, .string p.9] _ (fun X hX => range_of (HSK.out X hX).r2 0 [.int .i64 p.1, .string p.2, .string p.3, .string p.4, .string p.5, .int .i64 p.6.1, .string p.6.2, .string p.6.3, .string p.6.4, .string p.6.5, .string p.6.6, .bool p.6.7, .int .i64 p.7, .string p.8, .string p.9] rfl) Try.underlying39 rfl (by kernel_rfl)) hH0 ?_
  simp only [Act.put, pu1, pu2, pu3, pu4, pu5, pu6]
  refine tkY 2 11 ?_ rfl ?_ hH0 ?_
  rotate_left
  ·intro wS hS; have c1 := iCells0 (HSK.out _ hS).r1; go_simp; (try with_reducible rfl)
  simp only [Act.put, pu1, pu2, pu3, pu4, pu5, pu6]
  refine tkY 3 11 ?_ rfl ?_ hH0 ?_
  rotate_left
  ·intro wS hS; go_simp; (try with_reducible rfl)
  simp only [Act.put, pu1, pu2, pu3, pu4, pu5, pu6]
  refine tkY 4 11 ?_ rfl ?_ hH0 ?_
  rotate_left
  ·intro wS hS; have k1 := (jC15 (HSK.out _ hS).r2).2.1; go_simp; (try with_reducible rfl)
  simp only [Act.put, pu1, pu2, pu3, pu4, pu5, pu6]
  refine wpAnyL_duo (i := 5) (j := 7) (by decide +kernel) (by rfl) (by rfl) (fun K hK => ?_) (fun K hK => ?_)
  ·rw [if_pos (by rfl)]
   go_simp
   refine (Code.find_of l A n c HL.out hn p.id u0 (HSK.out _ hH0).its (i : Int) HK0.out).mono ?_
   rintro e u1 ⟨rfl, hx1⟩
   have hH1 := hH0.trans (hx1.mono hH0.size)
   refine hK.out _ _ (Or.inr hH1) ?_
   clear hK K hx1
   try simp only [Act.put, pu1, pu2, pu3, pu4, pu5, pu6]
   refine tkY 6 11 ?_ rfl ?_ hH1 ?_
   rotate_left
   ·intro wS hS; go_simp; (try with_reducible rfl)
   simp only [Act.put, pu1, pu2, pu3, pu4, pu5, pu6]
   refine onY 7 (by rfl) fun K hK => ?_
   go_simp
   have hx2 := Below.news (Below.refl u1.heap.size u1) (.cells #[.slice none 0 0, .int .i64 0, .string ⟨#[]⟩, .string ⟨#[]⟩, .string ⟨#[]⟩, .string ⟨#[]⟩, .int .i64 0, .string ⟨#[]⟩, .string ⟨#[]⟩, .string ⟨#[]⟩, .string ⟨#[]⟩, .string ⟨#[]⟩, .bool false, .int .i64 0, .string ⟨#[]⟩, .string ⟨#[]⟩, .int .i64 0] 68)
   have hr2 := heap_alloc_new u1 (.cells #[.slice none 0 0, .int .i64 0, .string ⟨#[]⟩, .string ⟨#[]⟩, .string ⟨#[]⟩, .string ⟨#[]⟩, .int .i64 0, .string ⟨#[]⟩, .string ⟨#[]⟩, .string ⟨#[]⟩, .string ⟨#[]⟩, .string ⟨#[]⟩, .bool false, .int .i64 0, .string ⟨#[]⟩, .string ⟨#[]⟩, .int .i64 0] 68)
   have hg2 : w3.heap.size ≤ u1.heap.size := hH1.size
   have hH2 := hH1.trans (hx2.mono hH1.size)
   refine hK.out _ _ (Or.inr hH2) ?_
   clear hK K hx2
   try simp only [Act.put, pu1, pu2, pu3, pu4, pu5, pu6]
   generalize u1.alloc (.cells #[.slice none 0 0, .int .i64 0, .string ⟨#[]⟩, .string ⟨#[]⟩, .string ⟨#[]⟩, .string ⟨#[]⟩, .int .i64 0, .string ⟨#[]⟩, .string ⟨#[]⟩, .string ⟨#[]⟩, .string ⟨#[]⟩, .string ⟨#[]⟩, .bool false, .int .i64 0, .string ⟨#[]⟩, .string ⟨#[]⟩, .int .i64 0] 68) = u2 at *
   generalize u1.heap.size = g2 at *
   refine onY 8 (by rfl) fun K hK => ?_
   have hst := store_part (ty := 68) u2 g2 0 #[.slice none 0 0, .int .i64 0, .string ⟨#[]⟩, .string ⟨#[]⟩, .string ⟨#[]⟩, .string ⟨#[]⟩, .int .i64 0, .string ⟨#[]⟩, .string ⟨#[]⟩, .string ⟨#[]⟩, .string ⟨#[]⟩, .string ⟨#[]⟩, .bool false, .int .i64 0, .string ⟨#[]⟩, .string ⟨#[]⟩, .int .i64 0] (.agg #[.slice A n c, .int .i64 p.1, .string p.2, .string p.3, .string p.4, .string p.5, .int .i64 p.6.1, .string p.6.2, .string p.6.3, .string p.6.4, .string p.6.5, .string p.6.6, .bool p.6.7, .int .i64 p.7, .string p.8, .string p.9, .int .i64 i]) #[.slice A n c, .int .i64 p.1, .string p.2, .string p.3, .string p.4, .string p.5, .int .i64 p.6.1, .string p.6.2, .string p.6.3, .string p.6.4, .string p.6.5, .string p.6.6, .bool p.6.7, .int .i64 p.7, .string p.8, .string p.9, .int .i64 i] hr2 infoCh17 (Nat.le_refl _) (one_change A n c p (i : Int)) rfl
   go_simp
   clear hst
   have hr3 := setRow_heap u2 g2 _ #[.slice A n c, .int .i64 p.1, .string p.2, .string p.3, .string p.4, .string p.5, .int .i64 p.6.1, .string p.6.2, .string p.6.3, .string p.6.4, .string p.6.5, .string p.6.6, .bool p.6.7, .int .i64 p.7, .string p.8, .string p.9, .int .i64 i] _ _ hr2
   have hH3 := below_setRow hH2 hg2 (g := g2) #[.slice A n c, .int .i64 p.1, .string p.2, .string p.3, .string p.4, .string p.5, .int .i64 p.6.1, .string p.6.2, .string p.6.3, .string p.6.4, .string p.6.5, .string p.6.6, .bool p.6.7, .int .i64 p.7, .string p.8, .string p.9, .int .i64 i]
   refine hK.out _ _ (Or.inr hH3) ?_
   clear hK K
   try simp only [Act.put, pu1, pu2, pu3, pu4, pu5, pu6]
   refine dnY ?_
   go_wp2_with fail
   go_meet
   case rel => exact ⟨g2, rfl, hg2, hr3, hH3⟩
  ·rw [if_pos (by rfl)]
   go_simp
   have hx2 := Below.news (Below.refl u0.heap.size u0) (.cells #[.slice none 0 0, .int .i64 0, .string ⟨#[]⟩, .string ⟨#[]⟩, .string ⟨#[]⟩, .string ⟨#[]⟩, .int .i64 0, .string ⟨#[]⟩, .string ⟨#[]⟩, .string ⟨#[]⟩, .string ⟨#[]⟩, .string ⟨#[]⟩, .bool false, .int .i64 0, .string ⟨#[]⟩, .string ⟨#[]⟩, .int .i64 0] 68)
   have hr1 := heap_alloc_new u0 (.cells #[.slice none 0 0, .int .i64 0, .string ⟨#[]⟩, .string ⟨#[]⟩, .string ⟨#[]⟩, .string ⟨#[]⟩, .int .i64 0, .string ⟨#[]⟩, .string ⟨#[]⟩, .string ⟨#[]⟩, .string ⟨#[]⟩, .string ⟨#[]⟩, .bool false, .int .i64 0, .string ⟨#[]⟩, .string ⟨#[]⟩, .int .i64 0] 68)
   have hg2 : w3.heap.size ≤ u0.heap.size := hH0.size
   have hH1 := hH0.trans (hx2.mono hH0.size)
   refine hK.out _ _ (Or.inr hH1) ?_
   clear hK K hx2
   try simp only [Act.put, pu1, pu2, pu3, pu4, pu5, pu6]
   generalize u0.alloc (.cells #[.slice none 0 0, .int .i64 0, .string ⟨#[]⟩, .string ⟨#[]⟩, .string ⟨#[]⟩, .string ⟨#[]⟩, .int .i64 0, .string ⟨#[]⟩, .string ⟨#[]⟩, .string ⟨#[]⟩, .string ⟨#[]⟩, .string ⟨#[]⟩, .bool false, .int .i64 0, .string ⟨#[]⟩, .string ⟨#[]⟩, .int .i64 0] 68) = u1 at *
   generalize u0.heap.size = g2 at *
   refine onY 5 (by rfl) fun K hK => ?_
   go_simp
   refine (Code.find_of l A n c HL.out hn p.id u1 (HSK.out _ hH1).its (i : Int) HK0.out).mono ?_
   rintro e u2 ⟨rfl, hx1⟩
   have hH2 := hH1.trans (hx1.mono hH1.size)
   have hr2 := iNext hr1 hx1
   refine hK.out _ _ (Or.inr hH2) ?_
   clear hK K hx1
   try simp only [Act.put, pu1, pu2, pu3, pu4, pu5, pu6]
   refine tkY 6 11 ?_ rfl ?_ hH2 ?_
   rotate_left
   ·intro wS hS; go_simp; (try with_reducible rfl)
   simp only [Act.put, pu1, pu2, pu3, pu4, pu5, pu6]
   refine onY 8 (by rfl) fun K hK => ?_
   have hst := store_part (ty := 68) u2 g2 0 #[.slice none 0 0, .int .i64 0, .string ⟨#[]⟩, .string ⟨#[]⟩, .string ⟨#[]⟩, .string ⟨#[]⟩, .int .i64 0, .string ⟨#[]⟩, .string ⟨#[]⟩, .string ⟨#[]⟩, .string ⟨#[]⟩, .string ⟨#[]⟩, .bool false, .int .i64 0, .string ⟨#[]⟩, .string ⟨#[]⟩, .int .i64 0] (.agg #[.slice A n c, .int .i64 p.1, .string p.2, .string p.3, .string p.4, .string p.5, .int .i64 p.6.1, .string p.6.2, .string p.6.3, .string p.6.4, .string p.6.5, .string p.6.6, .bool p.6.7, .int .i64 p.7, .string p.8, .string p.9, .int .i64 i]) #[.slice A n c, .int .i64 p.1, .string p.2, .string p.3, .string p.4, .string p.5, .int .i64 p.6.1, .string p.6.2, .string p.6.3, .string p.6.4, .string p.6.5, .string p.6.6, .bool p.6.7, .int .i64 p.7, .string p.8, .string p.9, .int .i64 i] hr2 infoCh17 (Nat.le_refl _) (one_change A n c p (i : Int)) rfl
   go_simp
   clear hst
   have hr3 := setRow_heap u2 g2 _ #[.slice A n c, .int .i64 p.1, .string p.2, .string p.3, .string p.4, .string p.5, .int .i64 p.6.1, .string p.6.2, .string p.6.3, .string p.6.4, .string p.6.5, .string p.6.6, .bool p.6.7, .int .i64 p.7, .string p.8, .string p.9, .int .i64 i] _ _ hr2
   have hH3 := below_setRow hH2 hg2 (g := g2) #[.slice A n c, .int .i64 p.1, .string p.2, .string p.3, .string p.4, .string p.5, .int .i64 p.6.1, .string p.6.2, .string p.6.3, .string p.6.4, .string p.6.5, .string p.6.6, .bool p.6.7, .int .i64 p.7, .string p.8, .string p.9, .int .i64 i]
   refine hK.out _ _ (Or.inr hH3) ?_
   clear hK K
   try simp only [Act.put, pu1, pu2, pu3, pu4, pu5, pu6]
   refine dnY ?_
   go_wp2_with fail
   go_meet
   case rel => exact ⟨g2, rfl, hg2, hr3, hH3⟩
 case rest =>
  obtain ⟨b6, rfl, hb6, r6, hbw⟩ := hcut
  rename World => wq
  have hS4 := HSK.out _ hbw
  have hb4 := bnext hb3 hbw
  clear hbw HSK hS3 hb3
  have hst := store_new (ty := 71) (T := 71) wq #[.nilFunc, .nilFunc, .nilFunc, .nilFunc, .nilFunc, .nilFunc, .nilFunc, .nilFunc] #[.nilFunc, .func (.func 26) #[] #[], .func (.func 27) #[] #[], .func (.func 28) #[] #[], .func (.func 29) #[] #[], .func (.func 30) #[] #[], .func (.func 30) #[] #[], .func (.func 31) #[] #[]] (by kernel_rfl) rfl (by decide +kernel)
  have hb6q := lt_of_block r6
  go_upto_region 5 with (fail)
  clear hst
  have hbn := Below.news (Below.refl wq.heap.size wq) (.cells #[.nilFunc, .func (.func 26) #[] #[], .func (.func 27) #[] #[], .func (.func 28) #[] #[], .func (.func 29) #[] #[], .func (.func 30) #[] #[], .func (.func 30) #[] #[], .func (.func 31) #[] #[]] 71)
  have r7 := heap_alloc_new wq (.cells #[.nilFunc, .func (.func 26) #[] #[], .func (.func 27) #[] #[], .func (.func 28) #[] #[], .func (.func 29) #[] #[], .func (.func 30) #[] #[], .func (.func 30) #[] #[], .func (.func 31) #[] #[]] 71)
  have hS5 := hS4.below hbn
  have r65 := iNext r6 hbn
  have hb5 := bnext hb4 hbn
  clear hbn hS4 r6 hb4
  obtain ⟨b7, hb7⟩ : ∃ b7, b7 = wq.heap.size := ⟨_, rfl⟩
  rw [← hb7] at r7 hb6q ⊢
  have HB7 := hide hb7
  clear hb7
  generalize wq.alloc (.cells #[.nilFunc, .func (.func 26) #[] #[], .func (.func 27) #[] #[], .func (.func 28) #[] #[], .func (.func 29) #[] #[], .func (.func 30) #[] #[], .func (.func 30) #[] #[], .func (.func 31) #[] #[]] 71) = w5 at *
  clear HB7
  have c0 := (jC15 hS5.r2).1
  have k1 := (jC15 hS5.r2).2.1
  have hL6 := hide (range_of r65 0 [.slice A n c, .int .i64 p.1, .string p.2, .string p.3, .string p.4, .string p.5, .int .i64 p.6.1, .string p.6.2, .string p.6.3, .string p.6.4, .string p.6.5, .string p.6.6, .bool p.6.7, .int .i64 p.7, .string p.8, .string p.9, .int .i64 i] rfl)
  go_wp2_with (with_reducible refine wpList_load_mid rfl 68 (.tmp 6) rfl b6 0 rfl _ _ hL6.out Try.underlying68 rfl (by kernel_rfl) ?_)
  refine (item_of l A n c HL.out hn p (i : Int) p.id w5 hS5.its y HY.out).mono ?_
  rintro e w6 ⟨rfl, hbq⟩
  clear hL6 k1 c0
  have hS6 := hS5.below hbq
  have r66 := iNext r65 hbq
  have r76 := iNext r7 hbq
  have hb6' := bnext hb5 hbq
  clear hbq hS5 r65 r7 hb5
  have hst := store_new (ty := 37) (T := 37) w6 #[.int .i64 0, .string ⟨#[]⟩, .string ⟨#[]⟩, .string ⟨#[]⟩, .string ⟨#[]⟩, .string ⟨#[]⟩, .bool false] #[.int .i64 y.1, .string y.2, .string y.3, .string y.4, .string y.5, .string y.6, .bool y.7] (by kernel_rfl) rfl (all_oneCell_toArray (iLay.one y))
  go_upto_region 7 with (fail)
  clear hst
  have hbn := Below.news (Below.refl w6.heap.size w6) (.cells #[.int .i64 y.1, .string y.2, .string y.3, .string y.4, .string y.5, .string y.6, .bool y.7] 37)
  have r8 := heap_alloc_new w6 (.cells #[.int .i64 y.1, .string y.2, .string y.3, .string y.4, .string y.5, .string y.6, .bool y.7] 37)
  have hS7 := hS6.below hbn
  have r67 := iNext r66 hbn
  have r77 := iNext r76 hbn
  have hb7' := bnext hb6' hbn
  clear hbn hS6 r66 r76 hb6'
  obtain ⟨b8, hb8⟩ : ∃ b8, b8 = w6.heap.size := ⟨_, rfl⟩
  rw [← hb8] at r8 ⊢
  have HB8 := hide hb8
  clear hb8
  generalize w6.alloc (.cells #[.int .i64 y.1, .string y.2, .string y.3, .string y.4, .string y.5, .string y.6, .bool y.7] 37) = w7 at *
  clear HB8
  have c0 := (jC15 hS7.r2).1
  obtain ⟨z0, z1, z2, z3, z4, z5, z6⟩ := iCells r8
  clear z1 z2 z3 z4 z5
  have yg := YG.out
  clear YG
  go_upto_region 14 with (fail)
  clear z0 z6 r8
  clear c0
  have HSK2 := hide (fun X (hX : Below w7.heap.size w7 X) => hS7.below hX)
  have HR6 := hide (fun X (hX : Below w7.heap.size w7 X) => iNext r67 hX)
  have HR7 := hide (fun X (hX : Below w7.heap.size w7 X) => iNext r77 hX)
  have hsz5 := lt_of_block hS7.r3
  refine wp_region_noPanic ?_
  refine wp_region_L (Below w7.heap.size w7) 8 hmx ?_
  have hH0 : (Below w7.heap.size w7) w7.drew := (Below.refl w7.heap.size w7).drew
  generalize w7.drew = u0 at *
  refine tkY 0 12 ?_ rfl ?_ hH0 ?_
  rotate_left
  ·intro wS hS; go_simp; (try with_reducible rfl)
  simp only [Act.put, pu1, pu2, pu3, pu4, pu5, pu6]
  refine tkY 1 12 ?_ rfl ?_ hH0 ?_
  rotate_left
  ·intro wS hS; have c0 := (jC15 (HSK2.out _ hS).r2).1; go_simp; (try with_reducible rfl)
  simp only [Act.put, pu1, pu2, pu3, pu4, pu5, pu6]
  refine tkY 2 12 ?_ rfl ?_ hH0 ?_
  rotate_left
  ·intro wS hS; have hk := HK.out; go_simp; (try with_reducible rfl)
  simp only [Act.put, pu1, pu2, pu3, pu4, pu5, pu6]
  refine tkY 3 12 ?_ rfl ?_ hH0 ?_
  rotate_left
  ·intro wS hS; have cf := cell_of_row _ _ 7 _ _ (0, 0) (HR7.out _ hS); go_simp; (try with_reducible rfl)
  simp only [Act.put, pu1, pu2, pu3, pu4, pu5, pu6]
  refine tkV 4 12 (.agg #[.slice A n c, .int .i64 p.1, .string p.2, .string p.3, .string p.4, .string p.5, .int .i64 p.6.1, .string p.6.2, .string p.6.3, .string p.6.4, .string p.6.5, .string p.6.6, .bool p.6.7, .int .i64 p.7, .string p.8, .string p.9, .int .i64 i]) rfl (by exact yieldsIf_load_mid (by rfl) 68 (.tmp 6) rfl b6 0 rfl [.slice A n c, .int .i64 p.1, .string p.2, .string p.3, .string p.4, .string p.5, .int .i64 p.6.1, .string p.6.2, .string p.6.3, .string p.6.4, .string p.6.5, .string p.6.6, .bool p.6.7, .int .i64 p.7, .string p.8, .string p.9, .int .i64 i] _ (fun X hX => range_of (HR6.out X hX) 0 [.slice A n c, .int .i64 p.1, .string p.2, .string p.3, .string p.4, .string p.5, .int .i64 p.6.1, .string p.6.2, .string p.6.3, .string p.6.4, .string p.6.5, .string p.6.6, .bool p.6.7, .int .i64 p.7, .string p.8, .string p.9, .int .i64 i] rfl) Try.underlying68 rfl (by kernel_rfl)) hH0 ?_
  simp only [Act.put, pu1, pu2, pu3, pu4, pu5, pu6]
  refine onY 5 (by rfl) fun K hK => ?_
  go_simp
  refine ((replace_n l A n c HL.out hn p i hil y HYI.out (by omega) u0 (HSK2.out _ hH0).its).mono fun _ _ ⟨he, hb⟩ => ApR.err he hb).mono ?_
  rintro e u1 ⟨v', rfl, hO, hx1⟩
  have hH1 := hH0.trans (hx1.mono hH0.size)
  have hszu := hH0.size
  refine hK.out _ _ (Or.inr hH1) ?_
  clear hK K hx1
  try simp only [Act.put, pu1, pu2, pu3, pu4, pu5, pu6]
  refine tkY 6 12 ?_ rfl ?_ hH1 ?_
  rotate_left
  ·intro wS hS; go_simp; (try with_reducible rfl)
  simp only [Act.put, pu1, pu2, pu3, pu4, pu5, pu6]
  refine tkY 7 12 ?_ rfl ?_ hH1 ?_
  rotate_left
  ·intro wS hS; go_simp; (try with_reducible rfl)
  simp only [Act.put, pu1, pu2, pu3, pu4, pu5, pu6]
  refine onY 8 (by rfl) fun K hK => ?_
  obtain ⟨A', c', hv', _, _⟩ := hO.row
  obtain ⟨m', hm'⟩ : ∃ m', (([] : List Dg.It), (2 : Int)).1.length = m' := ⟨_, rfl⟩
  rw [hm'] at hv'
  clear hm'
  subst hv'
  have hst := store_part (ty := 24) u1 (w.heap.size + 1 + 1) 0 #[.slice none 0 0] (.agg #[.slice A' m' c']) #[.slice A' m' c'] (HSK2.out _ hH1).r3 infoCode1 (Nat.le_refl _) (one_code _ _ _) rfl
  have r25 := setRow_heap u1 (w.heap.size + 1 + 1) _ #[.slice A' m' c'] _ _ (HSK2.out _ hH1).r3
  have hb8 := below_setRow (bnext hb7' hH1) (by omega) (g := w.heap.size + 1 + 1) #[.slice A' m' c']
  have HO2 := hide (own_other hO (g := w.heap.size + 1 + 1) (fun e => by have := (World.ownsRow.lt hO _ e).1; omega) #[.slice A' m' c'])
  go_simp
  clear hst hO
  refine hK.out _ _ (Or.inl (by rfl)) ?_
  clear hK K hH1
  generalize u1.setRow (w.heap.size + 1 + 1) #[.slice A' m' c'] = u2 at *
  try simp only [Act.put, pu1, pu2, pu3, pu4, pu5, pu6]
  refine onY 9 (by rfl) fun K hK => ?_
  go_simp
  refine hK.out _ _ (Or.inl (by rfl)) ?_
  clear hK K
  try simp only [Act.put, pu1, pu2, pu3, pu4, pu5, pu6]
  refine dnY ?_
  have hsz0 : w.heap.size ≤ u0.heap.size := by have := hH0.size; omega
  go_wp2
  refine bodyPost_ret (results_c8 Try.results11 _ _ (w.heap.size + 1 + 1) 24 #[.slice A' m' c'] (0, 0) _ rfl r25 Try.underlying24 (by kernel_rfl)) rfl ⟨_, rfl, own_weak HO2.out (by omega), hb8⟩
set_option maxRecDepth 100000 in
set_option maxHeartbeats 8000000 in
attribute [-go_sem] Instr.storeAt in
theorem apply_replace_s (l : List Dg.It) (A : Option Addr) (n c : Nat) (hl : l.length = n) (hn : n ≤ 1048576) (hw : ∀ x ∈ l, ItW x) (p : Dg.Pt) (hp : PtW p) (h2 : p.kind ≠ 2) (hv : Dg.validC l = true) (y : Dg.It) (hy : Dg.itemA l p.id = y) (hf : Dg.formedP p = true) (i : Nat) (hi : Dg.idxI l p.id = some i) (hk : p.kind = 7) (y0 : (y.kind == 0) = false) (y1 : (y.kind == 1) = false) (yg : y.gone = false) (hN : ¬ (400 : Int) < (p.item.north.size : Int)) (hS : (400 : Int) < (p.item.south.size : Int))  (w : World) (hI : Its w w.heap.size A l) :
  Calls Try.prog 11 #[.agg #[.slice A n c], .agg #[.int .i64 p.1, .string p.2, .string p.3, .string p.4, .string p.5, .int .i64 p.6.1, .string p.6.2, .string p.6.3, .string p.6.4, .string p.6.5, .string p.6.6, .bool p.6.7, .int .i64 p.7, .string p.8, .string p.9]] w (ApR (([] : List Dg.It), (2 : Int)) w) := by
 obtain ⟨r1, r2, r3, hb1, hs⟩ := iAlloc3 w (.cells #[.slice A n c] 24) (.cells #[.int .i64 p.1, .string p.2, .string p.3, .string p.4, .string p.5, .int .i64 p.6.1, .string p.6.2, .string p.6.3, .string p.6.4, .string p.6.5, .string p.6.6, .bool p.6.7, .int .i64 p.7, .string p.8, .string p.9] 39) (.cells #[.slice none 0 0] 24)
 have hS1 : ApS w.heap.size A n c l p (((w.alloc (.cells #[.slice A n c] 24)).alloc (.cells #[.int .i64 p.1, .string p.2, .string p.3, .string p.4, .string p.5, .int .i64 p.6.1, .string p.6.2, .string p.6.3, .string p.6.4, .string p.6.5, .string p.6.6, .bool p.6.7, .int .i64 p.7, .string p.8, .string p.9] 39)).alloc (.cells #[.slice none 0 0] 24)) := ⟨r1, r2, r3, hI.keep hb1⟩
 have hmx : Try.prog.follows .mixedOrders = true := by kernel_rfl
 have HK := hide hk
 have k1 : (p.kind != 1) = true := by rw [hk]; rfl
 have k6 : (p.kind == 6) = false := by rw [hk]; rfl
 have k6n : (p.kind != 6) = true := by rw [hk]; rfl
 have hil : i < n := by obtain ⟨h, _⟩ := Dg.idxI_some hi; omega
 have hyi : l.getD i Dg.zeroI = y := by rw [← hy]; unfold Dg.itemA; rw [hi]
 have HK0 := hide (findX_idx hi); have HIX := hide hi; have HYI := hide hyi; have HY := hide hy; have YG := hide yg
 clear hk hyi hi hy yg
 have HS := hide hs; have HL := hide hl; have HW := hide hw; have HP := hide hp; have H2 := hide h2; have HV := hide hv
 clear r1 r2 r3 hs hI hl hw hp h2 hv
 have HF := hide hf
 clear hf
 have c1 := iCells0 hS1.r1
 go_enter Try.func11, Try.ntmps11
 go_wp2_with fail
 generalize ((w.alloc (.cells #[.slice A n c] 24)).alloc (.cells #[.int .i64 p.1, .string p.2, .string p.3, .string p.4, .string p.5, .int .i64 p.6.1, .string p.6.2, .string p.6.3, .string p.6.4, .string p.6.5, .string p.6.6, .bool p.6.7, .int .i64 p.7, .string p.8, .string p.9] 39)).alloc (.cells #[.slice none 0 0] 24) = w1 at *
 refine (Code.valid_of l A n c HL.out HW.out hn w1 hS1.its true HV.out).mono ?_
 rintro e w2 ⟨rfl, hbq⟩
 have hS2 := hS1.below hbq
 have hb2 := bnext hb1 hbq
 have hsz : w.heap.size + 3 ≤ w2.heap.size := by have := hbq.size; have := HS.out; omega
 clear hbq hS1 hb1 c1 HS
 have hL2 := hide (range_of hS2.r2 0 [.int .i64 p.1, .string p.2, .string p.3, .string p.4, .string p.5, .int .i64 p.6.1, .string p.6.2, .string p.6.3, .string p.6.4, .string p.6.5, .string p.6.6, .bool p.6.7, .int .i64 p.7, .string p.8, .string p.9] rfl)
 go_wp2_with (refine wpList_load_midW 39 (.tmp 3) rfl (by rfl) (w.heap.size + 1) 0 rfl _ _ hL2.out Try.underlying39 rfl (by kernel_rfl) ?_)
 clear hL2
 refine (formed_of p HP.out H2.out true HF.out w2).mono ?_
 rintro e w3 ⟨rfl, hbq⟩
 have hS3 := hS2.below hbq
 have hb3 := bnext hb2 hbq
 have hsz3 : w.heap.size + 3 ≤ w3.heap.size := by have := hbq.size; omega
 clear hbq hS2 hb2 hsz
 have HSK := hide (fun X (hX : Below w3.heap.size w3 X) => hS3.below hX)
 go_upto_region 3 with (fail)
 go_cut [6] from 18 to 24 (fun v6 wx => ∃ b6 : Nat, v6 = .pointer (some ⟨b6, 0, none⟩) ∧ w3.heap.size ≤ b6 ∧ wx.heap[b6]? = some (.cells #[.slice A n c, .int .i64 p.1, .string p.2, .string p.3, .string p.4, .string p.5, .int .i64 p.6.1, .string p.6.2, .string p.6.3, .string p.6.4, .string p.6.5, .string p.6.6, .bool p.6.7, .int .i64 p.7, .string p.8, .string p.9, .int .i64 i] 68 (0, 0)) ∧ Below w3.heap.size w3 wx)
 case first =>
  refine wp_region_noPanic ?_
  refine wp_region_L (Below w3.heap.size w3) 9 hmx ?_
  have hH0 : (Below w3.heap.size w3) w3.drew := (Below.refl w3.heap.size w3).drew
  generalize w3.drew = u0 at *
  refine tkY 0 11 ?_ rfl ?_ hH0 ?_
  rotate_left
  ·intro wS hS; have c1 := iCells0 (HSK.out _ hS).r1; go_simp; (try with_reducible rfl)
  simp only [Act.put, pu1, pu2, pu3, pu4, pu5, pu6]
  refine tkV 1 11 (.agg #[.int .i64 p.1, .string p.2, .string p.3, .string p.4, .string p.5, .int .i64 p.6.1, .string p.6.2, .string p.6.3, .string p.6.4, .string p.6.5, .string p.6.6, .bool p.6.7, .int .i64 p.7, .string p.8, .string p.9]) rfl (by exact yieldsIf_load_mid (by rfl) 39 (.tmp 3) rfl (w.heap.size + 1) 0 rfl [.int .i64 p.1, .string p.2, .string p.3, .string p.4, .string p.5, .int .i64 p.6.1, .string p.6.2, .string p.6.3, .string p.6.4, .string p.6.5, .string p.6.6, .bool p.6.7, .int .i64 p.7, .string p.8, .string p.9] _ (fun X hX => range_of (HSK.out X hX).r2 0 [.int .i64 p.1, .string p.2, .string p.3, .string p.4, .string p.5, .int .i64 p.6.1, .string p.6.2, .string p.6.3, .string p.6.4, .string p.6.5, .string p.6.6, .bool p.6.7, .int .i64 p.7, .string p.8, .string p.9] rfl) Try.underlying39 rfl (by kernel_rfl)) hH0 ?_
  simp only [Act.put, pu1, pu2, pu3, pu4, pu5, pu6]
  refine tkY 2 11 ?_ rfl ?_ hH0 ?_
  rotate_left
  ·intro wS hS; have c1 := iCells0 (HSK.out _ hS).r1; go_simp; (try with_reducible rfl)
  simp only [Act.put, pu1, pu2, pu3, pu4, pu5, pu6]
  refine tkY 3 11 ?_ rfl ?_ hH0 ?_
  rotate_left
  ·intro wS hS; go_simp; (try with_reducible rfl)
  simp only [Act.put, pu1, pu2, pu3, pu4, pu5, pu6]
  refine tkY 4 11 ?_ rfl ?_ hH0 ?_
  rotate_left
  ·intro wS hS; have k1 := (jC15 (HSK.out _ hS).r2).2.1; go_simp; (try with_reducible rfl)
  simp only [Act.put, pu1, pu2, pu3, pu4, pu5, pu6]
  refine wpAnyL_duo (i := 5) (j := 7) (by decide +kernel) (by rfl) (by rfl) (fun K hK => ?_) (fun K hK => ?_)
  ·rw [if_pos (by rfl)]
   go_simp
   refine (Code.find_of l A n c HL.out hn p.id u0 (HSK.out _ hH0).its (i : Int) HK0.out).mono ?_
   rintro e u1 ⟨rfl, hx1⟩
   have hH1 := hH0.trans (hx1.mono hH0.size)
   refine hK.out _ _ (Or.inr hH1) ?_
   clear hK K hx1
   try simp only [Act.put, pu1, pu2, pu3, pu4, pu5, pu6]
   refine tkY 6 11 ?_ rfl ?_ hH1 ?_
   rotate_left
   ·intro wS hS; go_simp; (try with_reducible rfl)
   simp only [Act.put, pu1, pu2, pu3, pu4, pu5, pu6]
   refine onY 7 (by rfl) fun K hK => ?_
   go_simp
   have hx2 := Below.news (Below.refl u1.heap.size u1) (.cells #[.slice none 0 0, .int .i64 0, .string ⟨#[]⟩, .string ⟨#[]⟩, .string ⟨#[]⟩, .string ⟨#[]⟩, .int .i64 0, .string ⟨#[]⟩, .string ⟨#[]⟩, .string ⟨#[]⟩, .string ⟨#[]⟩, .string ⟨#[]⟩, .bool false, .int .i64 0, .string ⟨#[]⟩, .string ⟨#[]⟩, .int .i64 0] 68)
   have hr2 := heap_alloc_new u1 (.cells #[.slice none 0 0, .int .i64 0, .string ⟨#[]⟩, .string ⟨#[]⟩, .string ⟨#[]⟩, .string ⟨#[]⟩, .int .i64 0, .string ⟨#[]⟩, .string ⟨#[]⟩, .string ⟨#[]⟩, .string ⟨#[]⟩, .string ⟨#[]⟩, .bool false, .int .i64 0, .string ⟨#[]⟩, .string ⟨#[]⟩, .int .i64 0] 68)
   have hg2 : w3.heap.size ≤ u1.heap.size := hH1.size
   have hH2 := hH1.trans (hx2.mono hH1.size)
   refine hK.out _ _ (Or.inr hH2) ?_
   clear hK K hx2
   try simp only [Act.put, pu1, pu2, pu3, pu4, pu5, pu6]
   generalize u1.alloc (.cells #[.slice none 0 0, .int .i64 0, .string ⟨#[]⟩, .string ⟨#[]⟩, .string ⟨#[]⟩, .string ⟨#[]⟩, .int .i64 0, .string ⟨#[]⟩, .string ⟨#[]⟩, .string ⟨#[]⟩, .string ⟨#[]⟩, .string ⟨#[]⟩, .bool false, .int .i64 0, .string ⟨#[]⟩, .string ⟨#[]⟩, .int .i64 0] 68) = u2 at *
   generalize u1.heap.size = g2 at *
   refine onY 8 (by rfl) fun K hK => ?_
   have hst := store_part (ty := 68) u2 g2 0 #[.slice none 0 0, .int .i64 0, .string ⟨#[]⟩, .string ⟨#[]⟩, .string ⟨#[]⟩, .string ⟨#[]⟩, .int .i64 0, .string ⟨#[]⟩, .string ⟨#[]⟩, .string ⟨#[]⟩, .string ⟨#[]⟩, .string ⟨#[]⟩, .bool false, .int .i64 0, .string ⟨#[]⟩, .string ⟨#[]⟩, .int .i64 0] (.agg #[.slice A n c, .int .i64 p.1, .string p.2, .string p.3, .string p.4, .string p.5, .int .i64 p.6.1, .string p.6.2, .string p.6.3, .string p.6.4, .string p.6.5, .string p.6.6, .bool p.6.7, .int .i64 p.7, .string p.8, .string p.9, .int .i64 i]) #[.slice A n c, .int .i64 p.1, .string p.2, .string p.3, .string p.4, .string p.5, .int .i64 p.6.1, .string p.6.2, .string p.6.3, .string p.6.4, .string p.6.5, .string p.6.6, .bool p.6.7, .int .i64 p.7, .string p.8, .string p.9, .int .i64 i] hr2 infoCh17 (Nat.le_refl _) (one_change A n c p (i : Int)) rfl
   go_simp
   clear hst
   have hr3 := setRow_heap u2 g2 _ #[.slice A n c, .int .i64 p.1, .string p.2, .string p.3, .string p.4, .string p.5, .int .i64 p.6.1, .string p.6.2, .string p.6.3, .string p.6.4, .string p.6.5, .string p.6.6, .bool p.6.7, .int .i64 p.7, .string p.8, .string p.9, .int .i64 i] _ _ hr2
   have hH3 := below_setRow hH2 hg2 (g := g2) #[.slice A n c, .int .i64 p.1, .string p.2, .string p.3, .string p.4, .string p.5, .int .i64 p.6.1, .string p.6.2, .string p.6.3, .string p.6.4, .string p.6.5, .string p.6.6, .bool p.6.7, .int .i64 p.7, .string p.8, .string p.9, .int .i64 i]
   refine hK.out _ _ (Or.inr hH3) ?_
   clear hK K
   try simp only [Act.put, pu1, pu2, pu3, pu4, pu5, pu6]
   refine dnY ?_
   go_wp2_with fail
   go_meet
   case rel => exact ⟨g2, rfl, hg2, hr3, hH3⟩
  ·rw [if_pos (by rfl)]
   go_simp
   have hx2 := Below.news (Below.refl u0.heap.size u0) (.cells #[.slice none 0 0, .int .i64 0, .string ⟨#[]⟩, .string ⟨#[]⟩, .string ⟨#[]⟩, .string ⟨#[]⟩, .int .i64 0, .string ⟨#[]⟩, .string ⟨#[]⟩, .string ⟨#[]⟩, .string ⟨#[]⟩, .string ⟨#[]⟩, .bool false, .int .i64 0, .string ⟨#[]⟩, .string ⟨#[]⟩, .int .i64 0] 68)
   have hr1 := heap_alloc_new u0 (.cells #[.slice none 0 0, .int .i64 0, .string ⟨#[]⟩, .string ⟨#[]⟩, .string ⟨#[]⟩, .string ⟨#[]⟩, .int .i64 0, .string ⟨#[]⟩, .string ⟨#[]⟩, .string ⟨#[]⟩, .string ⟨#[]⟩, .string ⟨#[]⟩, .bool false, .int .i64 0, .string ⟨#[]⟩, .string ⟨#[]⟩, .int .i64 0] 68)
   have hg2 : w3.heap.size ≤ u0.heap.size := hH0.size
   have hH1 := hH0.trans (hx2.mono hH0.size)
   refine hK.out _ _ (Or.inr hH1) ?_
   clear hK K hx2
   try simp only [Act.put, pu1, pu2, pu3, pu4, pu5, pu6]
   generalize u0.alloc (.cells #[.slice none 0 0, .int .i64 0, .string ⟨#[]⟩, .string ⟨#[]⟩, .string ⟨#[]⟩, .string ⟨#[]⟩, .int .i64 0, .string ⟨#[]⟩, .string ⟨#[]⟩, .string ⟨#[]⟩, .string ⟨#[]⟩, .string ⟨#[]⟩, .bool false, .int .i64 0, .string ⟨#[]⟩, .string ⟨#[]⟩, .int .i64 0] 68) = u1 at *
   generalize u0.heap.size = g2 at *
   refine onY 5 (by rfl) fun K hK => ?_
   go_simp
   refine (Code.find_of l A n c HL.out hn p.id u1 (HSK.out _ hH1).its (i : Int) HK0.out).mono ?_
   rintro e u2 ⟨rfl, hx1⟩
   have hH2 := hH1.trans (hx1.mono hH1.size)
   have hr2 := iNext hr1 hx1
   refine hK.out _ _ (Or.inr hH2) ?_
   clear hK K hx1
   try simp only [Act.put, pu1, pu2, pu3, pu4, pu5, pu6]
   refine tkY 6 11 ?_ rfl ?_ hH2 ?_
   rotate_left
   ·intro wS hS; go_simp; (try with_reducible rfl)
   simp only [Act.put, pu1, pu2, pu3, pu4, pu5, pu6]
   refine onY 8 (by rfl) fun K hK => ?_
   have hst := store_part (ty := 68) u2 g2 0 #[.slice none 0 0, .int .i64 0, .string ⟨#[]⟩, .string ⟨#[]⟩, .string ⟨#[]⟩, .string ⟨#[]⟩, .int .i64 0, .string ⟨#[]⟩, .string ⟨#[]⟩, .string ⟨#[]⟩, .string ⟨#[]⟩, .string ⟨#[]⟩, .bool false, .int .i64 0, .string ⟨#[]⟩, .string ⟨#[]⟩, .int .i64 0] (.agg #[.slice A n c, .int .i64 p.1, .string p.2, .string p.3, .string p.4, .string p.5, .int .i64 p.6.1, .string p.6.2, .string p.6.3, .string p.6.4, .string p.6.5, .string p.6.6, .bool p.6.7, .int .i64 p.7, .string p.8, .string p.9, .int .i64 i]) #[.slice A n c, .int .i64 p.1, .string p.2, .string p.3, .string p.4, .string p.5, .int .i64 p.6.1, .string p.6.2, .string p.6.3, .string p.6.4, .string p.6.5, .string p.6.6, .bool p.6.7, .int .i64 p.7, .string p.8, .string p.9, .int .i64 i] hr2 infoCh17 (Nat.le_refl _) (one_change A n c p (i : Int)) rfl
   go_simp
   clear hst
   have hr3 := setRow_heap u2 g2 _ #[.slice A n c, .int .i64 p.1, .string p.2, .string p.3, .string p.4, .string p.5, .int .i64 p.6.1, .string p.6.2, .string p.6.3, .string p.6.4, .string p.6.5, .string p.6.6, .bool p.6.7, .int .i64 p.7, .string p.8, .string p.9, .int .i64 i] _ _ hr2
   have hH3 := below_setRow hH2 hg2 (g := g2) #[.slice A n c, .int .i64 p.1, .string p.2, .string p.3, .string p.4, .string p.5, .int .i64 p.6.1, .string p.6.2, .string p.6.3, .string p.6.4, .string p.6.5, .string p.6.6, .bool p.6.7, .int .i64 p.7, .string p.8, .string p.9, .int .i64 i]
   refine hK.out _ _ (Or.inr hH3) ?_
   clear hK K
   try simp only [Act.put, pu1, pu2, pu3, pu4, pu5, pu6]
   refine dnY ?_
   go_wp2_with fail
   go_meet
   case rel => exact ⟨g2, rfl, hg2, hr3, hH3⟩
 case rest =>
  obtain ⟨b6, rfl, hb6, r6, hbw⟩ := hcut
  rename World => wq
  have hS4 := HSK.out _ hbw
  have hb4 := bnext hb3 hbw
  clear hbw HSK hS3 hb3
  have hst := store_new (ty := 71) (T := 71) wq #[.nilFunc, .nilFunc, .nilFunc, .nilFunc, .nilFunc, .nilFunc, .nilFunc, .nilFunc] #[.nilFunc, .func (.func 26) #[] #[], .func (.func 27) #[] #[], .func (.func 28) #[] #[], .func (.func 29) #[] #[], .func (.func 30) #[] #[], .func (.func 30) #[] #[], .func (.func 31) #[] #[]] (by kernel_rfl) rfl (by decide +kernel)
  have hb6q := lt_of_block r6
  go_upto_region 5 with (fail)
  clear hst
  have hbn := Below.news (Below.refl wq.heap.size wq) (.cells #[.nilFunc, .func (.func 26) #[] #[], .func (.func 27) #[] #[], .func (.func 28) #[] #[], .func (.func 29) #[] #[], .func (.func 30) #[] #[], .func (.func 30) #[] #[], .func (.func 31) #[] #[]] 71)
  have r7 := heap_alloc_new wq (.cells #[.nilFunc, .func (.func 26) #[] #[], .func (.func 27) #[] #[], .func (.func 28) #[] #[], .func (.func 29) #[] #[], .func (.func 30) #[] #[], .func (.func 30) #[] #[], .func (.func 31) #[] #[]] 71)
  have hS5 := hS4.below hbn
  have r65 := iNext r6 hbn
  have hb5 := bnext hb4 hbn
  clear hbn hS4 r6 hb4
  obtain ⟨b7, hb7⟩ : ∃ b7, b7 = wq.heap.size := ⟨_, rfl⟩
  rw [← hb7] at r7 hb6q ⊢
  have HB7 := hide hb7
  clear hb7
  generalize wq.alloc (.cells #[.nilFunc, .func (.func 26) #[] #[], .func (.func 27) #[] #[], .func (.func 28) #[] #[], .func (.func 29) #[] #[], .func (.func 30) #[] #[], .func (.func 30) #[] #[], .func (.func 31) #[] #[]] 71) = w5 at *
  clear HB7
  have c0 := (jC15 hS5.r2).1
  have k1 := (jC15 hS5.r2).2.1
  have hL6 := hide (range_of r65 0 [.slice A n c, .int .i64 p.1, .string p.2, .string p.3, .string p.4, .string p.5, .int .i64 p.6.1, .string p.6.2, .string p.6.3, .string p.6.4, .string p.6.5, .string p.6.6, .bool p.6.7, .int .i64 p.7, .string p.8, .string p.9, .int .i64 i] rfl)
  go_wp2_with (with_reducible refine wpList_load_mid rfl 68 (.tmp 6) rfl b6 0 rfl _ _ hL6.out Try.underlying68 rfl (by kernel_rfl) ?_)
  refine (item_of l A n c HL.out hn p (i : Int) p.id w5 hS5.its y HY.out).mono ?_
  rintro e w6 ⟨rfl, hbq⟩
  clear hL6 k1 c0
  have hS6 := hS5.below hbq
  have r66 := iNext r65 hbq
  have r76 := iNext r7 hbq
  have hb6' := bnext hb5 hbq
  clear hbq hS5 r65 r7 hb5
  have hst := store_new (ty := 37) (T := 37) w6 #[.int .i64 0, .string ⟨#[]⟩, .string ⟨#[]⟩, .string ⟨#[]⟩, .string ⟨#[]⟩, .string ⟨#[]⟩, .bool false] #[.int .i64 y.1, .string y.2, .string y.3, .string y.4, .string y.5, .string y.6, .bool y.7] (by kernel_rfl) rfl (all_oneCell_toArray (iLay.one y))
  go_upto_region 7 with (fail)
  clear hst
  have hbn := Below.news (Below.refl w6.heap.size w6) (.cells #[.int .i64 y.1, .string y.2, .string y.3, .string y.4, .string y.5, .string y.6, .bool y.7] 37)
  have r8 := heap_alloc_new w6 (.cells #[.int .i64 y.1, .string y.2, .string y.3, .string y.4, .string y.5, .string y.6, .bool y.7] 37)
  have hS7 := hS6.below hbn
  have r67 := iNext r66 hbn
  have r77 := iNext r76 hbn
  have hb7' := bnext hb6' hbn
  clear hbn hS6 r66 r76 hb6'
  obtain ⟨b8, hb8⟩ : ∃ b8, b8 = w6.heap.size := ⟨_, rfl⟩
  rw [← hb8] at r8 ⊢
  have HB8 := hide hb8
  clear hb8
  generalize w6.alloc (.cells #[.int .i64 y.1, .string y.2, .string y.3, .string y.4, .string y.5, .string y.6, .bool y.7] 37) = w7 at *
  clear HB8
  have c0 := (jC15 hS7.r2).1
  obtain ⟨z0, z1, z2, z3, z4, z5, z6⟩ := iCells r8
  clear z1 z2 z3 z4 z5
  have yg := YG.out
  clear YG
  go_upto_region 14 with (fail)
  clear z0 z6 r8
  clear c0
  have HSK2 := hide (fun X (hX : Below w7.heap.size w7 X) => hS7.below hX)
  have HR6 := hide (fun X (hX : Below w7.heap.size w7 X) => iNext r67 hX)
  have HR7 := hide (fun X (hX : Below w7.heap.size w7 X) => iNext r77 hX)
  have hsz5 := lt_of_block hS7.r3
  refine wp_region_noPanic ?_
  refine wp_region_L (Below w7.heap.size w7) 8 hmx ?_
  have hH0 : (Below w7.heap.size w7) w7.drew := (Below.refl w7.heap.size w7).drew
  generalize w7.drew = u0 at *
  refine tkY 0 12 ?_ rfl ?_ hH0 ?_
  rotate_left
  ·intro wS hS; go_simp; (try with_reducible rfl)
  simp only [Act.put, pu1, pu2, pu3, pu4, pu5, pu6]
  refine tkY 1 12 ?_ rfl ?_ hH0 ?_
  rotate_left
  ·intro wS hS; have c0 := (jC15 (HSK2.out _ hS).r2).1; go_simp; (try with_reducible rfl)
  simp only [Act.put, pu1, pu2, pu3, pu4, pu5, pu6]
  refine tkY 2 12 ?_ rfl ?_ hH0 ?_
  rotate_left
  ·intro wS hS; have hk := HK.out; go_simp; (try with_reducible rfl)
  simp only [Act.put, pu1, pu2, pu3, pu4, pu5, pu6]
  refine tkY 3 12 ?_ rfl ?_ hH0 ?_
  rotate_left
  ·intro wS hS; have cf := cell_of_row _ _ 7 _ _ (0, 0) (HR7.out _ hS); go_simp; (try with_reducible rfl)
  simp only [Act.put, pu1, pu2, pu3, pu4, pu5, pu6]
  refine tkV 4 12 (.agg #[.slice A n c, .int .i64 p.1, .string p.2, .string p.3, .string p.4, .string p.5, .int .i64 p.6.1, .string p.6.2, .string p.6.3, .string p.6.4, .string p.6.5, .string p.6.6, .bool p.6.7, .int .i64 p.7, .string p.8, .string p.9, .int .i64 i]) rfl (by exact yieldsIf_load_mid (by rfl) 68 (.tmp 6) rfl b6 0 rfl [.slice A n c, .int .i64 p.1, .string p.2, .string p.3, .string p.4, .string p.5, .int .i64 p.6.1, .string p.6.2, .string p.6.3, .string p.6.4, .string p.6.5, .string p.6.6, .bool p.6.7, .int .i64 p.7, .string p.8, .string p.9, .int .i64 i] _ (fun X hX => range_of (HR6.out X hX) 0 [.slice A n c, .int .i64 p.1, .string p.2, .string p.3, .string p.4, .string p.5, .int .i64 p.6.1, .string p.6.2, .string p.6.3, .string p.6.4, .string p.6.5, .string p.6.6, .bool p.6.7, .int .i64 p.7, .string p.8, .string p.9, .int .i64 i] rfl) Try.underlying68 rfl (by kernel_rfl)) hH0 ?_
  simp only [Act.put, pu1, pu2, pu3, pu4, pu5, pu6]
  refine onY 5 (by rfl) fun K hK => ?_
  go_simp
  refine ((replace_s l A n c HL.out hn p i hil y HYI.out (by omega) (by omega) u0 (HSK2.out _ hH0).its).mono fun _ _ ⟨he, hb⟩ => ApR.err he hb).mono ?_
  rintro e u1 ⟨v', rfl, hO, hx1⟩
  have hH1 := hH0.trans (hx1.mono hH0.size)
  have hszu := hH0.size
  refine hK.out _ _ (Or.inr hH1) ?_
  clear hK K hx1
  try simp only [Act.put, pu1, pu2, pu3, pu4, pu5, pu6]
  refine tkY 6 12 ?_ rfl ?_ hH1 ?_
  rotate_left
  ·intro wS hS; go_simp; (try with_reducible rfl)
  simp only [Act.put, pu1, pu2, pu3, pu4, pu5, pu6]
  refine tkY 7 12 ?_ rfl ?_ hH1 ?_
  rotate_left
  ·intro wS hS; go_simp; (try with_reducible rfl)
  simp only [Act.put, pu1, pu2, pu3, pu4, pu5, pu6]
  refine onY 8 (by rfl) fun K hK => ?_
  obtain ⟨A', c', hv', _, _⟩ := hO.row
  obtain ⟨m', hm'⟩ : ∃ m', (([] : List Dg.It), (2 : Int)).1.length = m' := ⟨_, rfl⟩
  rw [hm'] at hv'
  clear hm'
  subst hv'
  have hst := store_part (ty := 24) u1 (w.heap.size + 1 + 1) 0 #[.slice none 0 0] (.agg #[.slice A' m' c']) #[.slice A' m' c'] (HSK2.out _ hH1).r3 infoCode1 (Nat.le_refl _) (one_code _ _ _) rfl
  have r25 := setRow_heap u1 (w.heap.size + 1 + 1) _ #[.slice A' m' c'] _ _ (HSK2.out _ hH1).r3
  have hb8 := below_setRow (bnext hb7' hH1) (by omega) (g := w.heap.size + 1 + 1) #[.slice A' m' c']
  have HO2 := hide (own_other hO (g := w.heap.size + 1 + 1) (fun e => by have := (World.ownsRow.lt hO _ e).1; omega) #[.slice A' m' c'])
  go_simp
  clear hst hO
  refine hK.out _ _ (Or.inl (by rfl)) ?_
  clear hK K hH1
  generalize u1.setRow (w.heap.size + 1 + 1) #[.slice A' m' c'] = u2 at *
  try simp only [Act.put, pu1, pu2, pu3, pu4, pu5, pu6]
  refine onY 9 (by rfl) fun K hK => ?_
  go_simp
  refine hK.out _ _ (Or.inl (by rfl)) ?_
  clear hK K
  try simp only [Act.put, pu1, pu2, pu3, pu4, pu5, pu6]
  refine dnY ?_
  have hsz0 : w.heap.size ≤ u0.heap.size := by have := hH0.size; omega
  go_wp2
  refine bodyPost_ret (results_c8 Try.results11 _ _ (w.heap.size + 1 + 1) 24 #[.slice A' m' c'] (0, 0) _ rfl r25 Try.underlying24 (by kernel_rfl)) rfl ⟨_, rfl, own_weak HO2.out (by omega), hb8⟩
end Go.Proofs.Ytgmimhgeigbpkaa
/- Texts of codes, in plain Lean: their lines, how long they are, beginnings. No program in sight. -/
namespace Go.Proofs.Ytgmimhgeigbpkaa.Dg
open Go
end Go.Proofs.Ytgmimhgeigbpkaa.Dg
/- The text of a code is read back, in plain Lean: the scanner of the program. No program in sight. -/
namespace Go.Proofs.Ytgmimhgeigbpkaa.Dg
open Go
end Go.Proofs.Ytgmimhgeigbpkaa.Dg
/- The text of a valid code is parsed as the code, in plain Lean. No program in sight. -/
namespace Go.Proofs.Ytgmimhgeigbpkaa.Dg
open Go
theorem proper_id {x : It} (h : properI x = true) : isNameB x.id = true ∧ isNumB x.number = true := by
 unfold properI at h
 split at h
 ·simp only [Bool.and_eq_true] at h; exact ⟨h.2.1, h.1⟩
 ·split at h
  ·simp only [Bool.and_eq_true] at h; exact ⟨h.2.1, h.1⟩
  ·cases h
end Go.Proofs.Ytgmimhgeigbpkaa.Dg
/- When a patch is possible, and what it does, in plain Lean. No program in sight. -/
namespace Go.Proofs.Ytgmimhgeigbpkaa.Dg
open Go
/-- When a patch is possible. -/
structure okP (l : List It) (p : Pt) : Prop where
 valid : validC l = true
 formed : formedP p = true
 ins : p.kind = 1 → idxI l p.id = none ∧ existsP l p = true ∧ l.length < 2000
 item : p.kind ≠ 1 → ∃ y ∈ l, y.id = p.id ∧ (y.kind = 1 → p.kind = 3 ∨ p.kind = 4) ∧ (p.kind = 6 → y.gone = true) ∧ (p.kind ≠ 6 → y.gone = false)
 move : p.kind = 4 → existsP l p = true ∧ p.parent ≠ p.id ∧ p.after ≠ p.id ∧ (p.parent ≠ nil8 → underN l p.parent p.id = false)
 texts : p.kind = 7 → p.item.north.size ≤ 400 ∧ p.item.south.size ≤ 400
/-- The item that a patch leaves. -/
def newI (p : Pt) (y : It) : It :=
 if p.kind = 1 then p.item else if p.kind = 3 then { y with number := p.number } else if p.kind = 4 then { y with parent := p.parent }
 else if p.kind = 7 then { y with north := p.item.north, south := p.item.south } else { y with gone := decide (p.kind = 5) }
/-- What a patch does to the items of a division. -/
def kidsP (p : Pt) (q : ByteArray) (ks : List ByteArray) : List ByteArray :=
 if p.kind = 1 then (if q = p.parent then insK p.after p.id ks else ks)
 else if p.kind = 4 then (if q = p.parent then insK p.after p.id (outK p.id ks) else outK p.id ks) else ks
/-- What a patch leaves. -/
structure Eff (l : List It) (p : Pt) (l' : List It) : Prop where
 valid : validC l' = true
 kids : ∀ q, kids l' q = kidsP p q (kids l q)
 items : ∀ y, y ∈ l' ↔ y = newI p (itemA l p.id) ∨ (y ∈ l ∧ y.id ≠ p.id)
 len : l'.length = if p.kind = 1 then l.length + 1 else l.length
theorem formed_kind {p : Pt} (h : formedP p = true) : p.kind = 1 ∨ p.kind = 3 ∨ p.kind = 4 ∨ p.kind = 5 ∨ p.kind = 6 ∨ p.kind = 7 := by
 unfold formedP at h
 by_cases h1 : p.kind = 1
 ·exact Or.inl h1
 ·rw [if_neg h1] at h
  by_cases h3 : p.kind = 3
  ·exact Or.inr (Or.inl h3)
  ·rw [if_neg h3] at h
   by_cases h4 : p.kind = 4
   ·exact Or.inr (Or.inr (Or.inl h4))
   ·rw [if_neg h4] at h
    by_cases h5 : p.kind = 5 ∨ p.kind = 6
    ·rcases h5 with h5 | h5
     ·exact Or.inr (Or.inr (Or.inr (Or.inl h5)))
     ·exact Or.inr (Or.inr (Or.inr (Or.inr (Or.inl h5))))
    ·rw [if_neg h5] at h
     by_cases h7 : p.kind = 7
     ·exact Or.inr (Or.inr (Or.inr (Or.inr (Or.inr h7))))
     ·rw [if_neg h7] at h
      cases h
theorem set_items {l : List It} (hv : validC l = true) {i : Nat} (hi : i < l.length) {y' : It} (hid : y'.id = l[i].id) (y : It) : y ∈ l.set i y' ↔ y = y' ∨ (y ∈ l ∧ y.id ≠ l[i].id) := by
 constructor
 ·intro h
  obtain ⟨k, hk, rfl⟩ := List.mem_iff_getElem.1 h
  rw [List.length_set] at hk
  rw [List.getElem_set]
  by_cases e : i = k
  ·rw [if_pos e]; exact Or.inl rfl
  ·rw [if_neg e]
   exact Or.inr ⟨List.getElem_mem hk, fun he => e (id_inj hv hi hk he.symm)⟩
 ·rintro (rfl | ⟨h, hne⟩)
  ·exact List.mem_iff_getElem.2 ⟨i, by rw [List.length_set]; exact hi, by rw [List.getElem_set, if_pos rfl]⟩
  ·obtain ⟨k, hk, rfl⟩ := List.mem_iff_getElem.1 h
   refine List.mem_iff_getElem.2 ⟨k, by rw [List.length_set]; exact hk, ?_⟩
   rw [List.getElem_set, if_neg]
   intro e
   subst e
   exact hne rfl
theorem set_eff {l : List It} (hv : validC l = true) {p : Pt} {i : Nat} (hi : i < l.length) (hid : l[i].id = p.id) (hk1 : p.kind ≠ 1) (hk4 : p.kind ≠ 4) {y' : It} (hy : newI p l[i] = y') (hl : likeI l[i] y') : Eff l p (l.set i y') := by
 obtain ⟨e1, e2, e3, _⟩ := hl
 refine ⟨set_valid hv hi ⟨e1, e2, e3, by assumption⟩, fun q => ?_, fun y => ?_, ?_⟩
 ·unfold kidsP
  rw [if_neg hk1, if_neg hk4]
  exact kids_set hi e1.symm e2.symm q
 ·have hA : itemA l p.id = l[i] := by rw [← hid]; exact itemA_mem hv (List.getElem_mem hi)
  rw [hA, hy, ← hid]
  exact set_items hv hi e1.symm y
 ·rw [if_neg hk1, List.length_set]
theorem proper_number {n : ByteArray} (h : validC [⟨1, sDd, nil8, n, nil8, nil8, false⟩] = true) {x : It} (hx : properI x = true) : properI { x with number := n } = true := by
 have h1 := valid_proper h _ (List.mem_singleton.2 rfl)
 have h2 : isNumB n = true := (proper_id h1).2
 have h4 : isNumB x.number = true := (proper_id hx).2
 unfold properI at hx ⊢
 simp only [h2, h4] at hx ⊢
 exact hx
theorem like_number {n : ByteArray} (h : validC [⟨1, sDd, nil8, n, nil8, nil8, false⟩] = true) (x : It) : likeI x { x with number := n } := ⟨rfl, rfl, rfl, fun hx => proper_number h hx⟩
theorem like_gone {x : It} (hk : x.kind ≠ 1) (g : Bool) : likeI x { x with gone := g } := ⟨rfl, rfl, rfl, fun hx => by
 unfold properI at hx ⊢
 simp only at hx ⊢
 rw [if_neg hk] at hx ⊢
 exact hx⟩
theorem like_texts {x : It} (hk : x.kind ≠ 1) {a b : ByteArray} (ha : a.size ≤ 400) (hb : b.size ≤ 400) : likeI x { x with north := a, south := b } := ⟨rfl, rfl, rfl, fun hx => by
 unfold properI at hx ⊢
 simp only at hx ⊢
 rw [if_neg hk] at hx ⊢
 split at hx
 ·rename_i h2
  rw [if_pos h2]
  simp only [Bool.and_eq_true, decide_eq_true_eq] at hx ⊢
  exact ⟨hx.1, hx.2.1, ha, hb⟩
 ·cases hx⟩
/-- A patch that is possible has its effect. -/
theorem apply_of_ok {l : List It} {p : Pt} (h : okP l p) : ∃ l', applyP l p = (l', 0) ∧ Eff l p l' := by
 have hv := h.valid
 have hf := h.formed
 unfold applyP
 rw [if_neg (by rw [hv, hf]; simp)]
 by_cases hk1 : p.kind = 1
 ·rw [if_pos hk1]
  obtain ⟨h1, h2, h3⟩ := h.ins hk1
  have e : insertP l p = (putP l p [p.item], 0) := by
   unfold insertP
   rw [if_neg (by rw [h1]; simp), if_neg (by rw [h2]; simp), if_neg (by omega)]
  obtain ⟨g1, g2, g3, g4⟩ := insert_eff hv hk1 hf e
  refine ⟨_, e, g1, fun q => ?_, fun y => ?_, by rw [if_pos hk1]; exact g4⟩
  ·rw [g2 q]; unfold kidsP; rw [if_pos hk1]
  ·rw [g3 y]
   unfold newI
   rw [if_pos hk1]
   exact ⟨fun hh => hh.imp id fun hy => ⟨hy, idxI_none h1 y hy⟩, fun hh => hh.imp id (·.1)⟩
 ·rw [if_neg hk1]
  obtain ⟨y, hy, hid, c1, c2, c3⟩ := h.item hk1
  obtain ⟨i, hi, rfl⟩ := List.mem_iff_getElem.1 hy
  have hix : idxI l p.id = some i := by rw [← hid]; exact idxI_at hv hi
  have hg : l.getD i zeroI = l[i] := by rw [List.getD_eq_getElem?_getD, List.getElem?_eq_getElem hi, Option.getD_some]
  rw [hix]
  simp only [hg]
  have hnd : ¬ (l[i].kind = 1 ∧ p.kind ≠ 3 ∧ p.kind ≠ 4) := fun ⟨a, b, c⟩ => (c1 a).elim b c
  rw [if_neg hnd, if_neg (fun ⟨a, b⟩ => by rw [c2 a] at b; cases b), if_neg (fun ⟨a, b⟩ => by rw [c3 a] at b; cases b)]
  have hfk := formed_kind hf
  by_cases hk3 : p.kind = 3
  ·rw [if_pos hk3]
   have hnum : validC [⟨1, sDd, nil8, p.number, nil8, nil8, false⟩] = true := by
    have h9 := hf
    unfold formedP at h9
    rw [if_neg hk1, if_pos hk3, Bool.and_eq_true] at h9
    exact h9.2
   exact ⟨_, rfl, set_eff hv hi hid hk1 (by rw [hk3]; decide) (by unfold newI; rw [if_neg hk1, if_pos hk3]) (like_number hnum _)⟩
  ·rw [if_neg hk3]
   by_cases hk4 : p.kind = 4
   ·rw [if_pos hk4]
    obtain ⟨m1, m2, m3, m4⟩ := h.move hk4
    have e : ∃ l', moveP l p i l[i] = (l', 0) := by
     unfold moveP
     rw [if_neg]
     ·exact ⟨_, rfl⟩
     ·rintro (a | a | a | ⟨a, b⟩)
      ·rw [m1] at a; cases a
      ·exact m2 a
      ·exact m3 a
      ·rw [m4 a] at b; cases b
    obtain ⟨l', e⟩ := e
    obtain ⟨g1, g2, g3, g4⟩ := move_eff hv hi hid e
    refine ⟨l', e, g1, fun q => ?_, fun y => ?_, by rw [if_neg hk1]; exact g4⟩
    ·rw [g2 q]; unfold kidsP; rw [if_neg hk1, if_pos hk4]
    ·rw [g3 y]
     unfold newI
     rw [if_neg hk1, if_neg hk3, if_pos hk4]
     have hA : itemA l p.id = l[i] := by rw [← hid]; exact itemA_mem hv (List.getElem_mem hi)
     rw [hA]
   ·rw [if_neg hk4]
    have hne : l[i].kind ≠ 1 := fun e => hnd ⟨e, hk3, hk4⟩
    by_cases hk7 : p.kind = 7
    ·obtain ⟨t1, t2⟩ := h.texts hk7
     rw [if_pos hk7, if_neg (by omega)]
     exact ⟨_, rfl, set_eff hv hi hid hk1 hk4 (by unfold newI; rw [if_neg hk1, if_neg hk3, if_neg hk4, if_pos hk7]) (like_texts hne t1 t2)⟩
    ·rw [if_neg hk7]
     exact ⟨_, rfl, set_eff hv hi hid hk1 hk4 (by unfold newI; rw [if_neg hk1, if_neg hk3, if_neg hk4, if_neg hk7]) (like_gone hne _)⟩
/-- Only such a one has an answer without an error. -/
theorem ok_of_apply {l : List It} {p : Pt} {l' : List It} (h : applyP l p = (l', 0)) : okP l p := by
 unfold applyP at h
 split at h
 ·injection h with _ h; exact absurd h (by decide)
 rename_i hvf
 have hv : validC l = true := by
  cases hv : validC l with
  | true => rfl
  | false => exact absurd (Or.inl hv) hvf
 have hf : formedP p = true := by
  cases hf : formedP p with
  | true => rfl
  | false => exact absurd (Or.inr hf) hvf
 by_cases hk1 : p.kind = 1
 ·rw [if_pos hk1] at h
  refine ⟨hv, hf, fun _ => ?_, fun hh => absurd hk1 hh, fun hh => by rw [hk1] at hh; exact absurd hh (by decide), fun hh => by rw [hk1] at hh; exact absurd hh (by decide)⟩
  unfold insertP at h
  split at h
  ·injection h with _ h; exact absurd h (by decide)
  rename_i g1
  split at h
  ·injection h with _ h; exact absurd h (by decide)
  rename_i g2
  split at h
  ·injection h with _ h; exact absurd h (by decide)
  rename_i g3
  refine ⟨?_, by simpa using g2, by omega⟩
  cases hi : idxI l p.id with
  | none => rfl
  | some i => rw [hi] at g1; exact absurd rfl g1
 ·rw [if_neg hk1] at h
  cases hix : idxI l p.id with
  | none =>
   rw [hix] at h
   injection h with _ h
   exact absurd h (by decide)
  | some i =>
   rw [hix] at h
   obtain ⟨hi, hid⟩ := idxI_some hix
   have hg : l.getD i zeroI = l[i] := by rw [List.getD_eq_getElem?_getD, List.getElem?_eq_getElem hi, Option.getD_some]
   simp only [hg] at h
   split at h
   ·injection h with _ h; exact absurd h (by decide)
   rename_i c1
   split at h
   ·injection h with _ h; exact absurd h (by decide)
   rename_i c2
   split at h
   ·injection h with _ h; exact absurd h (by decide)
   rename_i c3
   refine ⟨hv, hf, fun hh => absurd hh hk1, fun _ => ⟨l[i], List.getElem_mem hi, hid, fun a => ?_, fun a => ?_, fun a => ?_⟩, fun hk4 => ?_, fun hk7 => ?_⟩
   ·by_cases h3 : p.kind = 3
    ·exact Or.inl h3
    ·by_cases h4 : p.kind = 4
     ·exact Or.inr h4
     ·exact absurd ⟨a, h3, h4⟩ c1
   ·cases hgn : l[i].gone with
    | true => rfl
    | false => exact absurd ⟨a, hgn⟩ c2
   ·cases hgn : l[i].gone with
    | false => rfl
    | true => exact absurd ⟨a, hgn⟩ c3
   ·rw [if_neg (by rw [hk4]; decide), if_pos hk4] at h
    unfold moveP at h
    split at h
    ·injection h with _ h; exact absurd h (by decide)
    rename_i hm
    refine ⟨?_, fun e => hm (Or.inr (Or.inl e)), fun e => hm (Or.inr (Or.inr (Or.inl e))), fun hne => ?_⟩
    ·cases he : existsP l p with
     | true => rfl
     | false => exact absurd (Or.inl he) hm
    ·cases hu : underN l p.parent p.id with
     | false => rfl
     | true => exact absurd (Or.inr (Or.inr (Or.inr ⟨hne, hu⟩))) hm
   ·rw [if_neg (by rw [hk7]; decide), if_neg (by rw [hk7]; decide), if_pos hk7] at h
    split at h
    ·injection h with _ h; exact absurd h (by decide)
    rename_i ht
    omega
end Go.Proofs.Ytgmimhgeigbpkaa.Dg
/- What a patch leaves of other items, and of what lies above them, in plain Lean. No program in sight. -/
namespace Go.Proofs.Ytgmimhgeigbpkaa.Dg
open Go
/-- q lies above d. -/
inductive Anc (l : List It) : ByteArray → ByteArray → Prop
 | up {x : It} (hx : x ∈ l) (hne : x.parent ≠ nil8) : Anc l x.id x.parent
 | on {x : It} {q : ByteArray} (hx : x ∈ l) (hne : x.parent ≠ nil8) (h : Anc l x.parent q) : Anc l x.id q
theorem anc_visit {l : List It} (hv : validC l = true) : ∀ (k : Nat) (hk : k < l.length) (q : ByteArray), Anc l l[k].id q ↔ inB ((visits l).getD k []) q = true := by
 obtain ⟨s, hw, _⟩ := valid_walk hv
 have hvl := walk_len (Nat.le_refl _) hw
 intro k
 induction k using Nat.strongRecOn with
 | _ k ih =>
  intro hk q
  have hgd : ∀ j, j < l.length → ∀ o, (visits l)[j]? = some o → (visits l).getD j [] = o := fun j hj o ho => by
   rw [List.getD_eq_getElem?_getD, ho, Option.getD_some]
  -- what an item of this Id is
  have hinv : ∀ {d q' : ByteArray}, Anc l d q' → d = l[k].id → l[k].parent ≠ nil8 ∧ (q' = l[k].parent ∨ Anc l l[k].parent q') := fun {d q'} h e => by
   cases h with
   | @up x hx hne =>
    have hxk : x = l[k] := by
     obtain ⟨j, hj, rfl⟩ := List.mem_iff_getElem.1 hx
     have := id_inj hv hj hk e
     subst this
     rfl
    subst hxk
    exact ⟨hne, Or.inl rfl⟩
   | @on x _ hx hne h =>
    have hxk : x = l[k] := by
     obtain ⟨j, hj, rfl⟩ := List.mem_iff_getElem.1 hx
     have := id_inj hv hj hk e
     subst this
     rfl
    subst hxk
    exact ⟨hne, Or.inr h⟩
  rcases visit_up (Nat.le_refl _) hw hk with ⟨h1, h2⟩ | ⟨h1, j, x, o, hj, hx, hxi, _, ho, hvk⟩
  ·rw [hgd k hk _ h2]
   constructor
   ·intro h
    exact absurd h1 (hinv h rfl).1
   ·intro h
    exact absurd h (by unfold inB; simp)
  ·have hjl : j < l.length := by omega
   have hxj : l[j] = x := by
    rw [List.getElem?_eq_getElem hjl] at hx
    exact Option.some.inj hx
   have ihj := ih j hj hjl
   rw [hgd k hk _ hvk]
   rw [hxj, hxi] at ihj
   constructor
   ·intro h
    rcases (hinv h rfl).2 with h2 | h2
    ·rw [inB_iff, h2]; simp
    ·have := (ihj q).1 h2
     rw [hgd j hjl o ho] at this
     rw [inB_iff] at this ⊢
     exact List.mem_append.2 (Or.inl this)
   ·intro h
    rw [inB_iff] at h
    rcases List.mem_append.1 h with h2 | h2
    ·exact Anc.on (List.getElem_mem hk) h1 ((ihj q).2 (by rw [hgd j hjl o ho, inB_iff]; exact h2))
    ·rw [List.mem_singleton.1 h2]
     exact Anc.up (List.getElem_mem hk) h1
theorem under_iff {l : List It} (hv : validC l = true) {d dv : ByteArray} (hne : dv ≠ nil8) : underN l d dv = true ↔ Anc l d dv := by
 unfold underN
 cases hi : idxI l d with
 | none =>
  constructor
  ·intro h; cases h
  ·intro h
   have hno := idxI_none hi
   cases h with
   | @up x hx _ => exact absurd rfl (hno x hx)
   | @on x _ hx _ _ => exact absurd rfl (hno x hx)
 | some i =>
  obtain ⟨hl, hid⟩ := idxI_some hi
  have h := anc_visit hv i hl dv
  rw [hid] at h
  simp only
  rw [decide_eq_false hne, Bool.false_or]
  exact h.symm
/-- What lies above an item, where one other changes. -/
theorem anc_keep {l l' : List It} {A : ByteArray} (h1 : ∀ x ∈ l, x.id ≠ A → ∃ y ∈ l', y.id = x.id ∧ y.parent = x.parent) {P q : ByteArray} (h : Anc l P q) : (P ≠ A ∧ ∀ z, Anc l P z → z ≠ A) → Anc l' P q := by
 induction h with
 | @up x hx hne =>
  rintro ⟨g1, _⟩
  obtain ⟨y, hy, e1, e2⟩ := h1 x hx g1
  rw [← e1, ← e2]
  exact Anc.up hy (by rw [e2]; exact hne)
 | @on x q hx hne h ih =>
  rintro ⟨g1, g2⟩
  obtain ⟨y, hy, e1, e2⟩ := h1 x hx g1
  rw [← e1]
  refine Anc.on hy (by rw [e2]; exact hne) ?_
  rw [e2]
  exact ih ⟨g2 _ (Anc.up hx hne), fun z hz => g2 z (Anc.on hx hne hz)⟩
theorem anc_back {l l' : List It} {A : ByteArray} (h2 : ∀ y ∈ l', y.id ≠ A → ∃ x ∈ l, x.id = y.id ∧ x.parent = y.parent) {P q : ByteArray} (h : Anc l' P q) : (P ≠ A ∧ ∀ z, Anc l P z → z ≠ A) → Anc l P q := by
 induction h with
 | @up y hy hne =>
  rintro ⟨g1, _⟩
  obtain ⟨x, hx, e1, e2⟩ := h2 y hy g1
  rw [← e1, ← e2]
  exact Anc.up hx (by rw [e2]; exact hne)
 | @on y q hy hne h ih =>
  rintro ⟨g1, g2⟩
  obtain ⟨x, hx, e1, e2⟩ := h2 y hy g1
  rw [← e1] at g2 ⊢
  refine Anc.on hx (by rw [e2]; exact hne) ?_
  have hup : Anc l x.id x.parent := Anc.up hx (by rw [e2]; exact hne)
  rw [e2]
  refine ih ⟨?_, fun z hz => g2 z (Anc.on hx (by rw [e2]; exact hne) (by rw [e2]; exact hz))⟩
  rw [← e2]
  exact g2 _ hup
theorem under_keep {l l' : List It} (hv : validC l = true) (hv' : validC l' = true) {A P B : ByteArray} (hB : B ≠ nil8) (h1 : ∀ x ∈ l, x.id ≠ A → ∃ y ∈ l', y.id = x.id ∧ y.parent = x.parent) (h2 : ∀ y ∈ l', y.id ≠ A → ∃ x ∈ l, x.id = y.id ∧ x.parent = y.parent) (hP : P ≠ A) (hA : ∀ z, Anc l P z → z ≠ A) : underN l' P B = underN l P B := by
 cases hu : underN l P B with
 | true => exact (under_iff hv' hB).2 (anc_keep h1 ((under_iff hv hB).1 hu) ⟨hP, hA⟩)
 | false =>
  cases hu' : underN l' P B with
  | false => rfl
  | true =>
   have := (under_iff hv hB).2 (anc_back h2 ((under_iff hv' hB).1 hu') ⟨hP, hA⟩)
   rw [hu] at this
   cases this
/-- The Id of the item that a patch leaves is its own. -/
theorem newI_id {l : List It} {p : Pt} (h : okP l p) : (newI p (itemA l p.id)).id = p.id := by
 by_cases hk : p.kind = 1
 ·unfold newI
  rw [if_pos hk]
  exact (formed_ins hk h.formed).1
 ·obtain ⟨y, hy, hid, _⟩ := h.item hk
  have hA : itemA l p.id = y := by rw [← hid]; exact itemA_mem h.valid hy
  rw [hA]
  unfold newI
  rw [if_neg hk]
  split
  ·exact hid
  ·split
   ·exact hid
   ·split
    ·exact hid
    ·exact hid
theorem itemA_none {l : List It} {d : ByteArray} (h : ∀ x ∈ l, x.id ≠ d) : itemA l d = zeroI := by
 unfold itemA
 cases hi : idxI l d with
 | none => rfl
 | some i =>
  obtain ⟨hl, e⟩ := idxI_some hi
  exact absurd e (h _ (List.getElem_mem hl))
theorem idxI_no {l : List It} {d : ByteArray} (h : ∀ x ∈ l, x.id ≠ d) : idxI l d = none := by
 cases hi : idxI l d with
 | none => rfl
 | some i =>
  obtain ⟨hl, e⟩ := idxI_some hi
  exact absurd e (h _ (List.getElem_mem hl))
/-- Another item is as it was. -/
theorem item_other {l l' : List It} {p : Pt} (h : okP l p) (he : Eff l p l') {d : ByteArray} (hd : d ≠ p.id) : itemA l' d = itemA l d ∧ (idxI l' d = none ↔ idxI l d = none) := by
 have hin : ∀ y, y.id = d → (y ∈ l' ↔ y ∈ l) := fun y hy => by
  rw [he.items y]
  constructor
  ·rintro (e | e)
   ·exact absurd ((newI_id h).symm.trans (e ▸ hy)).symm hd
   ·exact e.1
  ·intro e
   exact Or.inr ⟨e, by rw [hy]; exact hd⟩
 by_cases hm : ∃ y ∈ l, y.id = d
 ·obtain ⟨y, hy, hid⟩ := hm
  have hy' := (hin y hid).2 hy
  refine ⟨by rw [← hid, itemA_mem he.valid hy', itemA_mem h.valid hy], ?_⟩
  constructor
  ·intro e; exact absurd hid (idxI_none e y hy')
  ·intro e; exact absurd hid (idxI_none e y hy)
 ·have h1 : ∀ x ∈ l, x.id ≠ d := fun x hx e => hm ⟨x, hx, e⟩
  have h2 : ∀ x ∈ l', x.id ≠ d := fun x hx e => hm ⟨x, (hin x e).1 hx, e⟩
  exact ⟨by rw [itemA_none h1, itemA_none h2], by rw [idxI_no h1, idxI_no h2]⟩
/-- The item of a patch behind it. -/
theorem item_own {l l' : List It} {p : Pt} (h : okP l p) (he : Eff l p l') : itemA l' p.id = newI p (itemA l p.id) := by
 have := itemA_mem he.valid ((he.items _).2 (Or.inl rfl))
 rw [newI_id h] at this
 exact this
end Go.Proofs.Ytgmimhgeigbpkaa.Dg
/- Patches of different items that can be exchanged, in plain Lean. No program in sight. -/
namespace Go.Proofs.Ytgmimhgeigbpkaa.Dg
open Go
def places (p : Pt) : Prop := p.kind = 1 ∨ p.kind = 4
/-- Patches of different items that can be exchanged. -/
structure Exch (a b : Pt) : Prop where
 ids : a.id ≠ b.id
 n1 : places b → (a.kind = 1 → b.parent ≠ a.id ∧ b.after ≠ a.id) ∧ (a.kind = 4 → b.after ≠ a.id)
 n2 : places a → (b.kind = 1 → a.parent ≠ b.id ∧ a.after ≠ b.id) ∧ (b.kind = 4 → a.after ≠ b.id)
 far : places a → places b → ¬ (a.parent = b.parent ∧ a.after = b.after)
 mv : a.kind = 4 → b.kind = 4 → a.parent = b.parent
theorem Exch.symm {a b : Pt} (h : Exch a b) : Exch b a := ⟨fun e => h.ids e.symm, h.n2, h.n1, fun hb ha ⟨e1, e2⟩ => h.far ha hb ⟨e1.symm, e2.symm⟩, fun hb ha => (h.mv ha hb).symm⟩
theorem newI_kind {p : Pt} (hk : p.kind ≠ 1) (y : It) : (newI p y).kind = y.kind := by
 unfold newI
 rw [if_neg hk]
 split
 ·rfl
 ·split
  ·rfl
  ·split <;> rfl
theorem newI_parent {p : Pt} (hk : p.kind ≠ 1) (h4 : p.kind ≠ 4) (y : It) : (newI p y).parent = y.parent := by
 unfold newI
 rw [if_neg hk, if_neg h4]
 split
 ·rfl
 ·split <;> rfl
/-- The place of another patch is there as before. -/
theorem exists_same {l l1 : List It} {a b : Pt} (hx : Exch a b) (ha : okP l a) (he : Eff l a l1) (hb : places b) : existsP l1 b = existsP l b := by
 obtain ⟨n1, n4⟩ := hx.n1 hb
 have e1 : (itemA l1 b.parent).kind = (itemA l b.parent).kind := by
  by_cases hd : b.parent = a.id
  ·have hk : a.kind ≠ 1 := fun e => (n1 e).1 hd
   rw [hd, item_own ha he, newI_kind hk]
  ·rw [(item_other ha he hd).1]
 have e2 : (itemA l1 b.after).kind = (itemA l b.after).kind ∧ (itemA l1 b.after).parent = (itemA l b.after).parent := by
  by_cases hd : b.after = a.id
  ·have hk : a.kind ≠ 1 := fun e => (n1 e).2 hd
   have hk4 : a.kind ≠ 4 := fun e => n4 e hd
   rw [hd, item_own ha he, newI_kind hk, newI_parent hk hk4]
   exact ⟨rfl, rfl⟩
  ·rw [(item_other ha he hd).1]
   exact ⟨rfl, rfl⟩
 unfold existsP
 rw [e1, e2.1, e2.2]
theorem anc_ne {l : List It} {P z : ByteArray} (h : Anc l P z) : z ≠ nil8 ∧ ∃ x ∈ l, x.parent = z := by
 induction h with
 | @up x hx hne => exact ⟨hne, x, hx, rfl⟩
 | @on x q hx hne h ih => exact ih
theorem parent_in {l : List It} (hv : validC l = true) {x : It} (hx : x ∈ l) (hne : x.parent ≠ nil8) : ∃ y ∈ l, y.id = x.parent := by
 obtain ⟨k, hk, rfl⟩ := List.mem_iff_getElem.1 hx
 rcases parent_ahead hv hk with h | ⟨j, hj, h⟩
 ·exact absurd h hne
 ·exact ⟨_, List.getElem_mem (by omega), h⟩
/-- What lies above the division of a move is as before. -/
theorem under_same {l l1 : List It} {a b : Pt} (hx : Exch a b) (ha : okP l a) (he : Eff l a l1) (hb4 : b.kind = 4) (hbn : b.id ≠ nil8) (hp : b.parent ≠ nil8) : underN l1 b.parent b.id = underN l b.parent b.id := by
 have hA : itemA l1 a.id = newI a (itemA l a.id) := item_own ha he
 by_cases hk1 : a.kind = 1
 ·have hno := idxI_none (ha.ins hk1).1
  refine under_keep ha.valid he.valid (A := a.id) hbn (fun x hx' hne => ⟨x, (he.items x).2 (Or.inr ⟨hx', hne⟩), rfl, rfl⟩) (fun y hy hne => ?_) ((hx.n1 (Or.inr hb4)).1 hk1).1 (fun z hz e => ?_)
  ·rcases (he.items y).1 hy with h | h
   ·exact absurd (by rw [h]; exact newI_id ha) hne
   ·exact ⟨y, h.1, rfl, rfl⟩
  ·obtain ⟨hzn, x, hx', hxp⟩ := anc_ne hz
   obtain ⟨y, hy, ey⟩ := parent_in ha.valid hx' (by rw [hxp]; exact hzn)
   exact hno y hy (ey.trans (hxp.trans e))
 ·obtain ⟨o, ho, hoid, _⟩ := ha.item hk1
  have hoA : itemA l a.id = o := by rw [← hoid]; exact itemA_mem ha.valid ho
  by_cases hk4 : a.kind = 4
  ·have hpp : a.parent = b.parent := hx.mv hk4 hb4
   obtain ⟨_, m2, _, m4⟩ := ha.move hk4
   have han : a.id ≠ nil8 := by rw [← hoid]; exact name_ne (proper_name (valid_proper ha.valid o ho))
   refine under_keep ha.valid he.valid (A := a.id) hbn (fun x hx' hne => ⟨x, (he.items x).2 (Or.inr ⟨hx', hne⟩), rfl, rfl⟩) (fun y hy hne => ?_) (by rw [← hpp]; exact m2) (fun z hz e => ?_)
   ·rcases (he.items y).1 hy with h | h
    ·exact absurd (by rw [h]; exact newI_id ha) hne
    ·exact ⟨y, h.1, rfl, rfl⟩
   ·rw [e] at hz
    have := (under_iff ha.valid han).2 hz
    rw [← hpp, m4 (by rw [hpp]; exact hp)] at this
    cases this
  ·-- no item's division changes
   have hnp : (newI a o).parent = o.parent := newI_parent hk1 hk4 o
   have hni : (newI a o).id = a.id := by rw [← hoA]; exact newI_id ha
   refine under_keep ha.valid he.valid (A := nil8) hbn (fun x hx' _ => ?_) (fun y hy _ => ?_) hp (fun z hz => (anc_ne hz).1)
   ·by_cases hid : x.id = a.id
    ·have hxo : x = o := by
      have h1 := itemA_mem ha.valid hx'
      rw [hid, hoA] at h1
      exact h1.symm
     exact ⟨newI a o, (he.items _).2 (Or.inl (by rw [hoA])), by rw [hni, hid], by rw [hnp, hxo]⟩
    ·exact ⟨x, (he.items x).2 (Or.inr ⟨hx', hid⟩), rfl, rfl⟩
   ·rcases (he.items y).1 hy with h | h
    ·rw [hoA] at h
     exact ⟨o, ho, by rw [h, hni, hoid], by rw [h, hnp]⟩
    ·exact ⟨y, h.1, rfl, rfl⟩
/-- A patch is possible behind another one as ahead of it. -/
theorem ok_across {l l1 : List It} {a b : Pt} (hx : Exch a b) (ha : okP l a) (he : Eff l a l1) (hlen : b.kind = 1 → l.length < 2000 ∧ l1.length < 2000) : okP l b ↔ okP l1 b := by
 have hd : b.id ≠ a.id := fun e => hx.ids e.symm
 have hin : ∀ y : It, y.id = b.id → (y ∈ l1 ↔ y ∈ l) := fun y hy => by
  rw [he.items y]
  constructor
  ·rintro (e | e)
   ·exact absurd ((newI_id ha).symm.trans (e ▸ hy)).symm hd
   ·exact e.1
  ·intro e
   exact Or.inr ⟨e, by rw [hy]; exact hd⟩
 have hnone := (item_other ha he hd).2
 constructor
 ·intro h
  refine ⟨he.valid, h.formed, fun hk => ?_, fun hk => ?_, fun hk => ?_, h.texts⟩
  ·obtain ⟨g1, g2, g3⟩ := h.ins hk
   exact ⟨hnone.2 g1, by rw [exists_same hx ha he (Or.inl hk)]; exact g2, (hlen hk).2⟩
  ·obtain ⟨y, hy, e, r⟩ := h.item hk
   exact ⟨y, (hin y e).2 hy, e, r⟩
  ·obtain ⟨g1, g2, g3, g4⟩ := h.move hk
   refine ⟨by rw [exists_same hx ha he (Or.inr hk)]; exact g1, g2, g3, fun hne => ?_⟩
   obtain ⟨y, hy, e, _⟩ := h.item (by rw [hk]; decide)
   rw [under_same hx ha he hk (by rw [← e]; exact name_ne (proper_name (valid_proper h.valid y hy))) hne]
   exact g4 hne
 ·intro h
  refine ⟨ha.valid, h.formed, fun hk => ?_, fun hk => ?_, fun hk => ?_, h.texts⟩
  ·obtain ⟨g1, g2, g3⟩ := h.ins hk
   exact ⟨hnone.1 g1, by rw [← exists_same hx ha he (Or.inl hk)]; exact g2, (hlen hk).1⟩
  ·obtain ⟨y, hy, e, r⟩ := h.item hk
   exact ⟨y, (hin y e).1 hy, e, r⟩
  ·obtain ⟨g1, g2, g3, g4⟩ := h.move hk
   refine ⟨by rw [← exists_same hx ha he (Or.inr hk)]; exact g1, g2, g3, fun hne => ?_⟩
   obtain ⟨y, hy, e, _⟩ := h.item (by rw [hk]; decide)
   rw [← under_same hx ha he hk (by rw [← e]; exact name_ne (proper_name (valid_proper h.valid y hy))) hne]
   exact g4 hne
end Go.Proofs.Ytgmimhgeigbpkaa.Dg
/- Patches of different items: exchanged, they do the same, in plain Lean. No program in sight. -/
namespace Go.Proofs.Ytgmimhgeigbpkaa.Dg
open Go
theorem kidsP_still {p : Pt} (h : ¬ places p) (q : ByteArray) (ks : List ByteArray) : kidsP p q ks = ks := by
 unfold kidsP
 rw [if_neg (fun e => h (Or.inl e)), if_neg (fun e => h (Or.inr e))]
/-- What a place names is among the items of its division. -/
theorem after_kid {l : List It} {p : Pt} (h : existsP l p = true) : p.after = nil8 ∨ p.after ∈ kids l p.parent := by
 rcases ((exists_iff l p).1 h).2 with e | ⟨e1, e2⟩
 ·exact Or.inl e
 ·obtain ⟨m1, m2⟩ := mem_itemA e1
  exact Or.inr (mem_kids.2 ⟨_, m1, e2, m2⟩)
theorem ok_exists {l : List It} {p : Pt} (h : okP l p) (hp : places p) : existsP l p = true := by
 rcases hp with e | e
 ·exact (h.ins e).2.1
 ·exact (h.move e).1
theorem ok_name {l : List It} {p : Pt} (h : okP l p) : p.id ≠ nil8 := by
 by_cases hk : p.kind = 1
 ·obtain ⟨e, _, hp⟩ := formed_ins hk h.formed
  rw [← e]
  exact name_ne (proper_name hp)
 ·obtain ⟨y, hy, e, _⟩ := h.item hk
  rw [← e]
  exact name_ne (proper_name (valid_proper h.valid y hy))
/-- The orders in divisions: the same both ways. -/
theorem kids_exch {l : List It} {a b : Pt} (hx : Exch a b) (ha : okP l a) (hb : okP l b) (q : ByteArray) : kidsP b q (kidsP a q (kids l q)) = kidsP a q (kidsP b q (kids l q)) := by
 by_cases hpa : places a
 ·by_cases hpb : places b
  ·have hka := after_kid (ok_exists ha hpa)
   have hkb := after_kid (ok_exists hb hpb)
   have han := ok_name ha
   have hbn := ok_name hb
   have hfar := hx.far hpa hpb
   obtain ⟨n1i, n1m⟩ := hx.n1 hpb
   obtain ⟨n2i, n2m⟩ := hx.n2 hpa
   have hab : a.after ≠ b.id := by
    rcases hpb with e | e
    ·exact (n2i e).2
    ·exact n2m e
   have hba : b.after ≠ a.id := by
    rcases hpa with e | e
    ·exact (n1i e).2
    ·exact n1m e
   have hid := hx.ids
   -- both into one division
   have key : ∀ {K : List ByteArray}, a.parent = b.parent → (a.after = nil8 ∨ a.after ∈ K) → (b.after = nil8 ∨ b.after ∈ K) → insK b.after b.id (insK a.after a.id K) = insK a.after a.id (insK b.after b.id K) := fun {K} hpp h1 h2 =>
    insK_comm (fun e => hfar ⟨hpp, e.symm⟩) hba hab h2 h1
   by_cases hqa : q = a.parent
   ·by_cases hqb : q = b.parent
    ·have hpp : a.parent = b.parent := hqa.symm.trans hqb
     have ka : a.after = nil8 ∨ a.after ∈ kids l q := by rw [hqa]; exact hka
     have kb : b.after = nil8 ∨ b.after ∈ kids l q := by rw [hqb]; exact hkb
     rcases hpa with ea | ea <;> rcases hpb with eb | eb
     ·simp only [kidsP, ea, eb, if_true]
      simp only [if_pos hqa, if_pos hqb]
      exact key hpp ka kb
     ·have e1 : ¬ b.kind = 1 := by rw [eb]; decide
      simp only [kidsP, if_pos ea, if_neg e1, if_pos eb]
      simp only [if_pos hqa, if_pos hqb]; rw [outK_insK hab hid ka]
      exact key hpp (ka.imp_right fun h => mem_outK.2 ⟨h, hab⟩) (kb.imp_right fun h => mem_outK.2 ⟨h, fun e => (hb.move eb).2.2.1 e⟩)
     ·have e1 : ¬ a.kind = 1 := by rw [ea]; decide
      simp only [kidsP, if_pos eb, if_neg e1, if_pos ea]
      simp only [if_pos hqa, if_pos hqb]; rw [outK_insK hba (fun e => hid e.symm) kb]
      exact key hpp (ka.imp_right fun h => mem_outK.2 ⟨h, fun e => (ha.move ea).2.2.1 e⟩) (kb.imp_right fun h => mem_outK.2 ⟨h, hba⟩)
     ·have e1 : ¬ a.kind = 1 := by rw [ea]; decide
      have e2 : ¬ b.kind = 1 := by rw [eb]; decide
      simp only [kidsP, if_neg e1, if_pos ea, if_neg e2, if_pos eb]
      have h1 : a.after ≠ a.id := (ha.move ea).2.2.1
      have h2 : b.after ≠ b.id := (hb.move eb).2.2.1
      simp only [if_pos hqa, if_pos hqb]; rw [outK_insK hab hid (ka.imp_right fun h => mem_outK.2 ⟨h, h1⟩), outK_insK hba (fun e => hid e.symm) (kb.imp_right fun h => mem_outK.2 ⟨h, h2⟩), outK_comm a.id b.id]
      exact key hpp (ka.imp_right fun h => mem_outK.2 ⟨mem_outK.2 ⟨h, h1⟩, hab⟩) (kb.imp_right fun h => mem_outK.2 ⟨mem_outK.2 ⟨h, hba⟩, h2⟩) |>.trans (by rw [outK_comm])
    ·have ka : a.after = nil8 ∨ a.after ∈ kids l q := by rw [hqa]; exact hka
     rcases hpa with ea | ea <;> rcases hpb with eb | eb
     ·simp only [kidsP, ea, eb, if_true]
      simp only [if_pos hqa, if_neg hqb]
     ·have e1 : ¬ b.kind = 1 := by rw [eb]; decide
      simp only [kidsP, if_pos ea, if_neg e1, if_pos eb]
      simp only [if_pos hqa, if_neg hqb]; rw [outK_insK hab hid ka]
     ·have e1 : ¬ a.kind = 1 := by rw [ea]; decide
      simp only [kidsP, if_pos eb, if_neg e1, if_pos ea]
      simp only [if_pos hqa, if_neg hqb]
     ·exact absurd (hqa.trans (hx.mv ea eb)) hqb
   ·by_cases hqb : q = b.parent
    ·have kb : b.after = nil8 ∨ b.after ∈ kids l q := by rw [hqb]; exact hkb
     rcases hpa with ea | ea <;> rcases hpb with eb | eb
     ·simp only [kidsP, ea, eb, if_true]
      simp only [if_neg hqa, if_pos hqb]
     ·have e1 : ¬ b.kind = 1 := by rw [eb]; decide
      simp only [kidsP, if_pos ea, if_neg e1, if_pos eb]
      simp only [if_neg hqa, if_pos hqb]
     ·have e1 : ¬ a.kind = 1 := by rw [ea]; decide
      simp only [kidsP, if_pos eb, if_neg e1, if_pos ea]
      simp only [if_neg hqa, if_pos hqb]; rw [outK_insK hba (fun e => hid e.symm) kb]
     ·exact absurd (hqb.trans (hx.mv ea eb).symm) hqa
    ·rcases hpa with ea | ea <;> rcases hpb with eb | eb
     ·simp only [kidsP, ea, eb, if_true]
      simp only [if_neg hqa, if_neg hqb]
     ·have e1 : ¬ b.kind = 1 := by rw [eb]; decide
      simp only [kidsP, if_pos ea, if_neg e1, if_pos eb]
      simp only [if_neg hqa, if_neg hqb]
     ·have e1 : ¬ a.kind = 1 := by rw [ea]; decide
      simp only [kidsP, if_pos eb, if_neg e1, if_pos ea]
      simp only [if_neg hqa, if_neg hqb]
     ·have e1 : ¬ a.kind = 1 := by rw [ea]; decide
      have e2 : ¬ b.kind = 1 := by rw [eb]; decide
      simp only [kidsP, if_neg e1, if_pos ea, if_neg e2, if_pos eb]
      simp only [if_neg hqa, if_neg hqb]; rw [outK_comm]
  ·rw [kidsP_still hpb, kidsP_still hpb]
 ·rw [kidsP_still hpa, kidsP_still hpa]
/-- What both leave of the items: the same both ways. -/
theorem items_exch {l l1 l2 m1 m2 : List It} {a b : Pt} (hid : a.id ≠ b.id) (ha : okP l a) (hb : okP l b) (he1 : Eff l a l1) (he2 : Eff l1 b l2) (hf1 : Eff l b m1) (hf2 : Eff m1 a m2) : ∀ y, y ∈ l2 ↔ y ∈ m2 := by
 have h1 : itemA l1 b.id = itemA l b.id := (item_other ha he1 (fun e => hid e.symm)).1
 have h2 : itemA m1 a.id = itemA l a.id := (item_other hb hf1 hid).1
 have i1 := newI_id ha
 have i2 := newI_id hb
 intro y
 rw [he2.items y, hf2.items y, he1.items y, hf1.items y, h1, h2]
 constructor
 ·rintro (e | ⟨e | ⟨e, g⟩, g2⟩)
  ·exact Or.inr ⟨Or.inl e, by rw [e, i2]; exact fun h => hid h.symm⟩
  ·exact Or.inl e
  ·exact Or.inr ⟨Or.inr ⟨e, g2⟩, g⟩
 ·rintro (e | ⟨e | ⟨e, g⟩, g2⟩)
  ·exact Or.inr ⟨Or.inl e, by rw [e, i1]; exact hid⟩
  ·exact Or.inl e
  ·exact Or.inr ⟨Or.inr ⟨e, g2⟩, g⟩
/-- Two codes with the same items and the same orders are one. -/
theorem same_code {l m : List It} (hl : validC l = true) (hm : validC m = true) (hk : ∀ q, kids l q = kids m q) (hi : ∀ y, y ∈ l ↔ y ∈ m) : l = m :=
 same_list hl hm hk fun x hx y hy e => by
  have h1 := itemA_mem hl hx
  have h2 := itemA_mem hl ((hi y).2 hy)
  rw [e] at h1
  exact h1.symm.trans h2
/-- Patches of different items that can be exchanged: exchanged, they lead to the same. -/
theorem exch_run {l l1 l2 : List It} {a b : Pt} (hx : Exch a b) (hlen : l.length + 2 ≤ 2000) (h1 : applyP l a = (l1, 0)) (h2 : applyP l1 b = (l2, 0)) : ∃ m1, applyP l b = (m1, 0) ∧ applyP m1 a = (l2, 0) := by
 have ha := ok_of_apply h1
 obtain ⟨l1', e1, he1⟩ := apply_of_ok ha
 obtain rfl : l1 = l1' := by rw [h1] at e1; injection e1
 have hb1 := ok_of_apply h2
 obtain ⟨l2', e2, he2⟩ := apply_of_ok hb1
 obtain rfl : l2 = l2' := by rw [h2] at e2; injection e2
 have hl1 : l1.length ≤ l.length + 1 := by rw [he1.len]; split <;> omega
 have hb : okP l b := (ok_across hx ha he1 (fun _ => ⟨by omega, by omega⟩)).2 hb1
 obtain ⟨m1, f1, hf1⟩ := apply_of_ok hb
 have hm1 : m1.length ≤ l.length + 1 := by rw [hf1.len]; split <;> omega
 have ha1 : okP m1 a := (ok_across hx.symm hb hf1 (fun _ => ⟨by omega, by omega⟩)).1 ha
 obtain ⟨m2, f2, hf2⟩ := apply_of_ok ha1
 refine ⟨m1, f1, ?_⟩
 rw [f2]
 have : m2 = l2 := same_code hf2.valid he2.valid (fun q => by
  rw [hf2.kids q, hf1.kids q, he2.kids q, he1.kids q]
  exact (kids_exch hx ha hb q).symm) fun y => (items_exch hx.ids ha hb he1 he2 hf1 hf2 y).symm
 rw [this]
end Go.Proofs.Ytgmimhgeigbpkaa.Dg
/- Patches of one item that can be exchanged, and what Commute answers, in plain Lean. No program in sight. -/
namespace Go.Proofs.Ytgmimhgeigbpkaa.Dg
open Go
/-- Patches that change a number, a place or texts. -/
def softP (p : Pt) : Prop := p.kind = 3 ∨ p.kind = 4 ∨ p.kind = 7
/-- Two different ones, of one item. -/
structure Twin (a b : Pt) : Prop where
 ids : a.id = b.id
 fst : softP a
 snd : softP b
 kinds : a.kind ≠ b.kind
theorem Twin.symm {a b : Pt} (h : Twin a b) : Twin b a := ⟨h.ids.symm, h.snd, h.fst, fun e => h.kinds e.symm⟩
theorem soft_one {p : Pt} (h : softP p) : p.kind ≠ 1 := by rcases h with e | e | e <;> rw [e] <;> decide
theorem soft_six {p : Pt} (h : softP p) : p.kind ≠ 6 := by rcases h with e | e | e <;> rw [e] <;> decide
theorem newI_soft_gone {p : Pt} (h : softP p) (y : It) : (newI p y).gone = y.gone := by
 unfold newI
 rw [if_neg (soft_one h)]
 split
 ·rfl
 ·split
  ·rfl
  ·split
   ·rfl
   ·rename_i h3 h4 h7
    rcases h with e | e | e
    ·exact absurd e h3
    ·exact absurd e h4
    ·exact absurd e h7
theorem newI_comm {a b : Pt} (h : Twin a b) (y : It) : newI b (newI a y) = newI a (newI b y) := by
 rcases h.fst with ea | ea | ea <;> rcases h.snd with eb | eb | eb <;> first | exact absurd (ea.trans eb.symm) h.kinds | (simp only [newI, ea, eb]; rfl)
/-- What a patch that moves nothing leaves of places. -/
theorem exists_still {l l1 : List It} {a : Pt} (ha : okP l a) (he : Eff l a l1) (hs : softP a) (h4 : a.kind ≠ 4) (p : Pt) : existsP l1 p = existsP l p := by
 have hI : ∀ d, (itemA l1 d).kind = (itemA l d).kind ∧ (itemA l1 d).parent = (itemA l d).parent := fun d => by
  by_cases hd : d = a.id
  ·rw [hd, item_own ha he, newI_kind (soft_one hs), newI_parent (soft_one hs) h4]
   exact ⟨rfl, rfl⟩
  ·rw [(item_other ha he hd).1]
   exact ⟨rfl, rfl⟩
 unfold existsP
 rw [(hI p.parent).1, (hI p.after).1, (hI p.after).2]
theorem own_item {l : List It} {a : Pt} (ha : okP l a) (hk : a.kind ≠ 1) : itemA l a.id ∈ l ∧ (itemA l a.id).id = a.id := by
 obtain ⟨y, hy, e, _⟩ := ha.item hk
 have := itemA_mem ha.valid hy
 rw [e] at this
 rw [this]
 exact ⟨hy, e⟩
theorem under_still {l l1 : List It} {a : Pt} (ha : okP l a) (he : Eff l a l1) (hs : softP a) (h4 : a.kind ≠ 4) {P B : ByteArray} (hB : B ≠ nil8) (hP : P ≠ nil8) : underN l1 P B = underN l P B := by
 obtain ⟨m1, m2⟩ := own_item ha (soft_one hs)
 have hn := newI_id ha
 have hp := newI_parent (soft_one hs) h4 (itemA l a.id)
 refine under_keep ha.valid he.valid (A := nil8) hB (fun x hx _ => ?_) (fun y hy _ => ?_) hP (fun z hz => (anc_ne hz).1)
 ·by_cases hid : x.id = a.id
  ·have hxo : itemA l a.id = x := by
    have h1 := itemA_mem ha.valid hx
    rw [hid] at h1
    exact h1
   exact ⟨newI a (itemA l a.id), (he.items _).2 (Or.inl rfl), by rw [hn, hid], by rw [hp, hxo]⟩
  ·exact ⟨x, (he.items x).2 (Or.inr ⟨hx, hid⟩), rfl, rfl⟩
 ·rcases (he.items y).1 hy with h | h
  ·exact ⟨itemA l a.id, m1, by rw [h, hn, m2], by rw [h, hp]⟩
  ·exact ⟨y, h.1, rfl, rfl⟩
/-- A twin is possible behind the other as ahead of it. -/
theorem ok_twin {l l1 : List It} {a b : Pt} (hx : Twin a b) (ha : okP l a) (he : Eff l a l1) : okP l b ↔ okP l1 b := by
 have hk1 := soft_one hx.fst
 have hkb := soft_one hx.snd
 have hb6 := soft_six hx.snd
 obtain ⟨m1, m2⟩ := own_item ha hk1
 have hn := newI_id ha
 have hnk := newI_kind hk1 (itemA l a.id)
 have hng := newI_soft_gone hx.fst (itemA l a.id)
 have hone : ∀ y ∈ l, y.id = b.id → y = itemA l a.id := fun y hy e => by
  have h1 := itemA_mem ha.valid hy
  rw [e, ← hx.ids] at h1
  exact h1.symm
 have hone1 : ∀ y ∈ l1, y.id = b.id → y = newI a (itemA l a.id) := fun y hy e => by
  rcases (he.items y).1 hy with h | h
  ·exact h
  ·exact absurd (e.trans hx.ids.symm) h.2
 have ha4 : b.kind = 4 → a.kind ≠ 4 := fun e e' => hx.kinds (e'.trans e.symm)
 constructor
 ·intro h
  refine ⟨he.valid, h.formed, fun hk => absurd hk hkb, fun _ => ?_, fun hk => ?_, h.texts⟩
  ·obtain ⟨y, hy, e, r1, r2, r3⟩ := h.item hkb
   obtain rfl := hone y hy e
   exact ⟨_, (he.items _).2 (Or.inl rfl), by rw [hn, hx.ids], by rw [hnk]; exact r1, fun e => absurd e hb6, fun e => by rw [hng]; exact r3 e⟩
  ·obtain ⟨g1, g2, g3, g4⟩ := h.move hk
   refine ⟨by rw [exists_still ha he hx.fst (ha4 hk)]; exact g1, g2, g3, fun hne => ?_⟩
   rw [under_still ha he hx.fst (ha4 hk) (by rw [← hx.ids]; exact ok_name ha) hne]
   exact g4 hne
 ·intro h
  refine ⟨ha.valid, h.formed, fun hk => absurd hk hkb, fun _ => ?_, fun hk => ?_, h.texts⟩
  ·obtain ⟨y, hy, e, r1, r2, r3⟩ := h.item hkb
   obtain rfl := hone1 y hy e
   exact ⟨_, m1, by rw [m2, hx.ids], by rw [← hnk]; exact r1, fun e => absurd e hb6, fun e => by rw [← hng]; exact r3 e⟩
  ·obtain ⟨g1, g2, g3, g4⟩ := h.move hk
   refine ⟨by rw [← exists_still ha he hx.fst (ha4 hk)]; exact g1, g2, g3, fun hne => ?_⟩
   rw [← under_still ha he hx.fst (ha4 hk) (by rw [← hx.ids]; exact ok_name ha) hne]
   exact g4 hne
theorem twin_run {l l1 l2 : List It} {a b : Pt} (hx : Twin a b) (h1 : applyP l a = (l1, 0)) (h2 : applyP l1 b = (l2, 0)) : ∃ m1, applyP l b = (m1, 0) ∧ applyP m1 a = (l2, 0) := by
 have ha := ok_of_apply h1
 obtain ⟨l1', e1, he1⟩ := apply_of_ok ha
 obtain rfl : l1 = l1' := by rw [h1] at e1; injection e1
 have hb1 := ok_of_apply h2
 obtain ⟨l2', e2, he2⟩ := apply_of_ok hb1
 obtain rfl : l2 = l2' := by rw [h2] at e2; injection e2
 have hb : okP l b := (ok_twin hx ha he1).2 hb1
 obtain ⟨m1, f1, hf1⟩ := apply_of_ok hb
 have ha1 : okP m1 a := (ok_twin hx.symm hb hf1).1 ha
 obtain ⟨m2, f2, hf2⟩ := apply_of_ok ha1
 refine ⟨m1, f1, ?_⟩
 rw [f2]
 have : m2 = l2 := same_code hf2.valid he2.valid (fun q => by
  rw [hf2.kids q, hf1.kids q, he2.kids q, he1.kids q]
  by_cases hpa : places a
  ·have hpb : ¬ places b := fun hpb => by
    rcases hpa with e | e
    ·exact soft_one hx.fst e
    ·rcases hpb with e' | e'
     ·exact soft_one hx.snd e'
     ·exact hx.kinds (e.trans e'.symm)
   rw [kidsP_still hpb, kidsP_still hpb]
  ·rw [kidsP_still hpa, kidsP_still hpa]) fun y => by
  rw [hf2.items y, he2.items y, hf1.items y, he1.items y]
  have i1 : itemA m1 a.id = newI b (itemA l a.id) := by rw [hx.ids, item_own hb hf1]
  have i2 : itemA l1 b.id = newI a (itemA l a.id) := by rw [← hx.ids, item_own ha he1]
  have hna := newI_id ha
  have hnb := newI_id hb
  rw [i1, i2, newI_comm hx, hx.ids]
  constructor
  ·rintro (e | ⟨e | ⟨e, g⟩, g2⟩)
   ·exact Or.inl e
   ·exact absurd (by rw [e, hnb]) g2
   ·exact Or.inr ⟨Or.inr ⟨e, g⟩, g2⟩
  ·rintro (e | ⟨e | ⟨e, g⟩, g2⟩)
   ·exact Or.inl e
   ·rw [hx.ids] at hna
    exact absurd (by rw [e, hna]) g2
   ·exact Or.inr ⟨Or.inr ⟨e, g⟩, g2⟩
 rw [this]
/-- Patches that can be exchanged. -/
def Free (a b : Pt) : Prop := a = b ∨ Exch a b ∨ Twin a b
theorem Free.symm {a b : Pt} (h : Free a b) : Free b a := by
 rcases h with h | h | h
 ·exact Or.inl h.symm
 ·exact Or.inr (Or.inl h.symm)
 ·exact Or.inr (Or.inr h.symm)
theorem free_run {l l1 l2 : List It} {a b : Pt} (hx : Free a b) (hlen : l.length + 2 ≤ 2000) (h1 : applyP l a = (l1, 0)) (h2 : applyP l1 b = (l2, 0)) : ∃ m1, applyP l b = (m1, 0) ∧ applyP m1 a = (l2, 0) := by
 rcases hx with rfl | h | h
 ·exact ⟨l1, h1, h2⟩
 ·exact exch_run h hlen h1 h2
 ·exact twin_run h h1 h2
/-- The kinds of patches of one item that commute. -/
def ownP (j k : Int) : Bool := decide ((j = 3 ∧ k = 4) ∨ (j = 3 ∧ k = 7) ∨ (j = 4 ∧ k = 7))
/-- What Commute answers, where the kinds are in order. -/
def commO (a b : Pt) : Bool :=
 if formedP a = false ∨ formedP b = false then false
 else if a = b then true
 else if a.id = b.id then ownP a.kind b.kind
 else if (a.kind ≠ 1 ∧ a.kind ≠ 4) ∨ (b.kind ≠ 1 ∧ b.kind ≠ 4) then true
 else if b.kind = 1 then !(decide (a.parent = b.parent) && decide (a.after = b.after)) && (!(decide (a.parent = b.id) || decide (a.after = b.id)) && !(decide (b.parent = a.id) || decide (b.after = a.id)))
 else if a.kind = 1 then !(decide (a.parent = b.parent) && decide (a.after = b.after)) && (!(decide (b.parent = a.id) || decide (b.after = a.id)) && !decide (a.after = b.id))
 else decide (a.parent = b.parent) && (!(decide (a.parent = b.parent) && decide (a.after = b.after)) && (!decide (a.after = b.id) && !decide (b.after = a.id)))
def commP (a b : Pt) : Bool := if b.kind < a.kind then commO b a else commO a b
theorem commO_free {a b : Pt} (hk : a.kind ≤ b.kind) (h : commO a b = true) : Free a b := by
 unfold commO at h
 split at h
 ·cases h
 split at h
 ·rename_i e; exact Or.inl e
 split at h
 ·rename_i e
  refine Or.inr (Or.inr ⟨e, ?_, ?_, ?_⟩) <;> (rcases of_decide_eq_true h with ⟨e1, e2⟩ | ⟨e1, e2⟩ | ⟨e1, e2⟩) <;> first | omega | (unfold softP; omega)
 rename_i hid
 refine Or.inr (Or.inl ?_)
 split at h
 ·rename_i hp
  refine ⟨hid, fun hb => ?_, fun ha => ?_, fun ha hb => ?_, fun ha hb => ?_⟩
  ·rcases hp with ⟨p1, p2⟩ | ⟨p1, p2⟩
   ·exact ⟨fun e => absurd e p1, fun e => absurd e p2⟩
   ·exact absurd hb (by unfold places; omega)
  ·rcases hp with ⟨p1, p2⟩ | ⟨p1, p2⟩
   ·exact absurd ha (by unfold places; omega)
   ·exact ⟨fun e => absurd e p1, fun e => absurd e p2⟩
  ·unfold places at ha hb; omega
  ·omega
 rename_i hp
 split at h
 ·rename_i hb1
  simp only [Bool.and_eq_true, Bool.not_eq_true', Bool.or_eq_false_iff, decide_eq_false_iff_not, Bool.and_eq_false_iff] at h
  obtain ⟨h0, ⟨h1, h2⟩, h3, h4⟩ := h
  exact ⟨hid, fun _ => ⟨fun _ => ⟨h3, h4⟩, fun _ => h4⟩, fun _ => ⟨fun _ => ⟨h1, h2⟩, fun _ => h2⟩, fun _ _ ⟨g1, g2⟩ => h0.elim (fun n => n g1) (fun n => n g2), fun e1 e2 => by omega⟩
 split at h
 ·rename_i hb1 ha1
  simp only [Bool.and_eq_true, Bool.not_eq_true', Bool.or_eq_false_iff, decide_eq_false_iff_not, Bool.and_eq_false_iff] at h
  obtain ⟨h0, ⟨h3, h4⟩, h2⟩ := h
  exact ⟨hid, fun _ => ⟨fun _ => ⟨h3, h4⟩, fun _ => h4⟩, fun _ => ⟨fun e => absurd e hb1, fun _ => h2⟩, fun _ _ ⟨g1, g2⟩ => h0.elim (fun n => n g1) (fun n => n g2), fun e1 e2 => by omega⟩
 ·rename_i hb1 ha1
  simp only [Bool.and_eq_true, Bool.not_eq_true', decide_eq_true_eq, decide_eq_false_iff_not, Bool.and_eq_false_iff] at h
  obtain ⟨h9, h0, h2, h4⟩ := h
  exact ⟨hid, fun _ => ⟨fun e => absurd e ha1, fun _ => h4⟩, fun _ => ⟨fun e => absurd e hb1, fun _ => h2⟩, fun _ _ ⟨g1, g2⟩ => h0.elim (fun n => n g1) (fun n => n g2), fun _ _ => h9⟩
theorem commP_free {a b : Pt} (h : commP a b = true) : Free a b := by
 unfold commP at h
 split at h
 ·exact (commO_free (by omega) h).symm
 ·exact commO_free (by omega) h
end Go.Proofs.Ytgmimhgeigbpkaa.Dg
/- Steps of different classes can be exchanged: then only the order in each class matters. No program in sight. -/
namespace Go.Proofs.Ytgmimhgeigbpkaa.Dg
section
variable {S P : Type} (step : S → P → Option S)
def runT : S → List P → Option S
 | s, [] => some s
 | s, a :: l => match step s a with
  | none => none
  | some s' => runT s' l
theorem runT_append : ∀ (a b : List P) (s : S), runT step s (a ++ b) = match runT step s a with | none => none | some t => runT step t b
 | [], _, _ => rfl
 | x :: a, b, s => by
  rw [List.cons_append, runT, runT]
  cases step s x with
  | none => rfl
  | some s' => exact runT_append a b s'
variable (ok : S → Prop) (cls : P → Nat)
/-- Different classes can be exchanged. -/
def ExchT : Prop := ∀ s a b s1 s2, ok s → cls a ≠ cls b → step s a = some s1 → step s1 b = some s2 → ∃ s1', step s b = some s1' ∧ step s1' a = some s2
theorem to_front (hok : ∀ s a s', ok s → step s a = some s' → ok s') (hx : ExchT step ok cls) (x : P) : ∀ (pre post : List P) (s t : S), ok s → (∀ a ∈ pre, cls a ≠ cls x) → runT step s (pre ++ x :: post) = some t → runT step s (x :: (pre ++ post)) = some t
 | [], _, _, _, _, _, h => h
 | a :: pre, post, s, t, hs, hp, h => by
  rw [List.cons_append, runT] at h
  cases h1 : step s a with
  | none => rw [h1] at h; cases h
  | some s1 =>
   rw [h1] at h
   have h2 := to_front hok hx x pre post s1 t (hok s a s1 hs h1) (fun b hb => hp b (List.mem_cons_of_mem _ hb)) h
   rw [runT] at h2
   cases h3 : step s1 x with
   | none => rw [h3] at h2; cases h2
   | some s2 =>
    rw [h3] at h2
    obtain ⟨s1', e1, e2⟩ := hx s a x s1 s2 hs (hp a (List.mem_cons_self ..)) h1 h3
    rw [runT, e1]
    show runT step s1' (a :: (pre ++ post)) = some t
    rw [runT, e2]
    exact h2
theorem first_split (p : P → Bool) : ∀ {l : List P} {x : P} {r : List P}, l.filter p = x :: r → ∃ pre post, l = pre ++ x :: post ∧ (∀ a ∈ pre, p a = false) ∧ post.filter p = r ∧ p x = true
 | [], _, _, h => by cases h
 | a :: l, x, r, h => by
  cases ha : p a with
  | true =>
   rw [List.filter_cons_of_pos ha] at h
   injection h with h1 h2
   subst h1
   exact ⟨[], l, rfl, by simp, h2, ha⟩
  | false =>
   rw [List.filter_cons_of_neg (by rw [ha]; decide)] at h
   obtain ⟨pre, post, e, h1, h2, h3⟩ := first_split p h
   exact ⟨a :: pre, post, by rw [e]; rfl, fun b hb => by
    rcases List.mem_cons.1 hb with rfl | hb
    ·exact ha
    ·exact h1 b hb, h2, h3⟩
/-- Two orders that agree in each class lead to the same. -/
theorem run_classes (hok : ∀ s a s', ok s → step s a = some s' → ok s') (hx : ExchT step ok cls) : ∀ (l' l : List P) (s t : S), ok s → (∀ c, l.filter (fun a => cls a == c) = l'.filter (fun a => cls a == c)) → runT step s l = some t → runT step s l' = some t
 | [], l, s, t, _, hf, h => by
  cases l with
  | nil => exact h
  | cons a l =>
   have := hf (cls a)
   rw [List.filter_cons_of_pos (by simp)] at this
   cases this
 | x :: r, l, s, t, hs, hf, h => by
  have h0 := hf (cls x)
  rw [List.filter_cons_of_pos (l := r) (by simp)] at h0
  obtain ⟨pre, post, rfl, h1, h2, _⟩ := first_split (fun a => cls a == cls x) h0
  have h3 := to_front step ok cls hok hx x pre post s t hs (fun a ha e => by
   have := h1 a ha
   simp [e] at this) h
  rw [runT] at h3 ⊢
  cases h4 : step s x with
  | none => rw [h4] at h3; cases h3
  | some s1 =>
   rw [h4] at h3
   refine run_classes hok hx r (pre ++ post) s1 t (hok s x s1 hs h4) (fun c => ?_) h3
   have h5 := hf c
   by_cases hc : cls x = c
   ·rw [List.filter_append, ← hc, List.filter_eq_nil_iff.2 (fun a ha => by rw [h1 a ha]; decide), List.nil_append]
    exact h2
   ·rw [List.filter_append, List.filter_cons_of_neg (by simpa using hc), List.filter_cons_of_neg (by simpa using hc), ← List.filter_append] at h5
    exact h5
end
end Go.Proofs.Ytgmimhgeigbpkaa.Dg
/- Patches in an order of their groups: the same is reached, in plain Lean. No program in sight. -/
namespace Go.Proofs.Ytgmimhgeigbpkaa.Dg
open Go
/-- One patch, or none. -/
def oneP (s : List It) (p : Pt) : Option (List It) := if (applyP s p).2 = 0 then some (applyP s p).1 else none
theorem oneP_iff {s t : List It} {p : Pt} : oneP s p = some t ↔ applyP s p = (t, 0) := by
 unfold oneP
 constructor
 ·intro h
  split at h
  ·rename_i h0
   injection h with h
   rw [← h, ← h0]
  ·cases h
 ·intro h
  rw [h, if_pos rfl]
/-- The patch at an index, or none. -/
def stepP (l : List Pt) (s : List It) (i : Nat) : Option (List It) := match l[i]? with
 | none => none
 | some p => oneP s p
theorem nodup_len {α : Type} [DecidableEq α] : ∀ (a b : List α), a.Nodup → (∀ x ∈ a, x ∈ b) → a.length ≤ b.length
 | [], _, _, _ => Nat.zero_le _
 | x :: a, b, hn, hs => by
  have h1 := List.nodup_cons.1 hn
  have hx := hs x (List.mem_cons_self ..)
  have h2 := nodup_len a (b.erase x) h1.2 (fun y hy => (List.mem_erase_of_ne (fun e => h1.1 (by rw [← e]; exact hy))).2 (hs y (List.mem_cons_of_mem _ hy)))
  rw [List.length_erase_of_mem hx] at h2
  have := List.length_pos_of_mem hx
  rw [List.length_cons]
  omega
theorem sorted_ext : ∀ {a b : List Nat}, a.Pairwise (· < ·) → b.Pairwise (· < ·) → (∀ x, x ∈ a ↔ x ∈ b) → a = b
 | [], [], _, _, _ => rfl
 | [], y :: b, _, _, h => absurd ((h y).2 (List.mem_cons_self ..)) (by simp)
 | x :: a, [], _, _, h => absurd ((h x).1 (List.mem_cons_self ..)) (by simp)
 | x :: a, y :: b, ha, hb, h => by
  have ha' := List.pairwise_cons.1 ha
  have hb' := List.pairwise_cons.1 hb
  have e : x = y := by
   rcases List.mem_cons.1 ((h x).1 (List.mem_cons_self ..)) with e | e
   ·exact e
   ·rcases List.mem_cons.1 ((h y).2 (List.mem_cons_self ..)) with e' | e'
    ·exact e'.symm
    ·have h1 := hb'.1 x e
     have h2 := ha'.1 y e'
     omega
  subst e
  congr 1
  refine sorted_ext ha'.2 hb'.2 fun z => ⟨fun hz => ?_, fun hz => ?_⟩
  ·rcases List.mem_cons.1 ((h z).1 (List.mem_cons_of_mem _ hz)) with e | e
   ·have := ha'.1 z hz
    omega
   ·exact e
  ·rcases List.mem_cons.1 ((h z).2 (List.mem_cons_of_mem _ hz)) with e | e
   ·have := hb'.1 z hz
    omega
   ·exact e
/-- The groups of a list of patches. -/
structure GrpOk (l : List Pt) (gs : List (List Nat)) : Prop where
 all : ∀ i, i < l.length ↔ ∃ g ∈ gs, i ∈ g
 sorted : ∀ g ∈ gs, g.Pairwise (· < ·)
 apart : gs.Pairwise (fun g h => ∀ i ∈ g, ∀ k ∈ h, i ≠ k ∧ ∀ p q, l[i]? = some p → l[k]? = some q → Free p q)
/-- The group of an index. -/
def clsG (gs : List (List Nat)) (i : Nat) : Nat := gs.findIdx fun g => decide (i ∈ g)
theorem cls_mem {gs : List (List Nat)} {i : Nat} (h : ∃ g ∈ gs, i ∈ g) : ∃ hc : clsG gs i < gs.length, i ∈ gs[clsG gs i] := by
 have hc : clsG gs i < gs.length := List.findIdx_lt_length_of_exists (by obtain ⟨g, hg, hi⟩ := h; exact ⟨g, hg, decide_eq_true hi⟩)
 exact ⟨hc, of_decide_eq_true (List.findIdx_getElem (w := hc))⟩
theorem cls_at {l : List Pt} {gs : List (List Nat)} (h : GrpOk l gs) {j : Nat} (hj : j < gs.length) {i : Nat} (hi : i ∈ gs[j]) : clsG gs i = j := by
 obtain ⟨hc, hm⟩ := cls_mem ⟨_, List.getElem_mem hj, hi⟩
 have hp := List.pairwise_iff_getElem.1 h.apart
 rcases Nat.lt_trichotomy (clsG gs i) j with g | g | g
 ·exact absurd rfl (hp _ _ hc hj g i hm i hi).1
 ·exact g
 ·exact absurd rfl (hp _ _ hj hc g i hi i hm).1
theorem cls_free {l : List Pt} {gs : List (List Nat)} (h : GrpOk l gs) {i k : Nat} {p q : Pt} (hi : l[i]? = some p) (hk : l[k]? = some q) (hne : clsG gs i ≠ clsG gs k) : Free p q := by
 obtain ⟨li, _⟩ := List.getElem?_eq_some_iff.1 hi
 obtain ⟨lk, _⟩ := List.getElem?_eq_some_iff.1 hk
 obtain ⟨hc, hm⟩ := cls_mem ((h.all i).1 li)
 obtain ⟨hd, hn⟩ := cls_mem ((h.all k).1 lk)
 have hp := List.pairwise_iff_getElem.1 h.apart
 rcases Nat.lt_or_gt_of_ne hne with g | g
 ·exact (hp _ _ hc hd g i hm k hn).2 p q hi hk
 ·exact ((hp _ _ hd hc g k hn i hm).2 q p hk hi).symm
theorem filt_sorted (cls : Nat → Nat) (c : Nat) : ∀ {gs : List (List Nat)}, (∀ g ∈ gs, g.Pairwise (· < ·)) → (∀ g ∈ gs, ∀ i ∈ g, ∀ k ∈ g, cls i = cls k) → gs.Pairwise (fun g h => ∀ i ∈ g, ∀ k ∈ h, cls i ≠ cls k) → (gs.flatten.filter (fun a => cls a == c)).Pairwise (· < ·)
 | [], _, _, _ => by simp
 | g :: gs, h1, h2, h3 => by
  have h3' := List.pairwise_cons.1 h3
  have ih := filt_sorted cls c (gs := gs) (fun g hg => h1 g (List.mem_cons_of_mem _ hg)) (fun g hg => h2 g (List.mem_cons_of_mem _ hg)) h3'.2
  rw [List.flatten_cons, List.filter_append]
  refine List.pairwise_append.2 ⟨(h1 g (List.mem_cons_self ..)).sublist List.filter_sublist, ih, fun a ha b hb => ?_⟩
  obtain ⟨a1, a2⟩ := List.mem_filter.1 ha
  obtain ⟨b1, b2⟩ := List.mem_filter.1 hb
  obtain ⟨g', hg', hb'⟩ := List.mem_flatten.1 b1
  exact absurd ((beq_iff_eq.1 a2).trans (beq_iff_eq.1 b2).symm) (h3'.1 g' hg' a a1 b hb')
theorem flat_mem {l : List Pt} {gs gs' : List (List Nat)} (h : GrpOk l gs) (hp : gs'.Perm gs) (i : Nat) : i ∈ gs'.flatten ↔ i < l.length := by
 rw [List.mem_flatten, h.all]
 exact ⟨fun ⟨g, hg, hi⟩ => ⟨g, hp.mem_iff.1 hg, hi⟩, fun ⟨g, hg, hi⟩ => ⟨g, hp.mem_iff.2 hg, hi⟩⟩
theorem cls_same {l : List Pt} {gs gs' : List (List Nat)} (h : GrpOk l gs) (hp : gs'.Perm gs) (c : Nat) : (List.range l.length).filter (fun a => clsG gs a == c) = gs'.flatten.filter (fun a => clsG gs a == c) := by
 refine sorted_ext (List.pairwise_lt_range.sublist List.filter_sublist) (filt_sorted (clsG gs) c (fun g hg => h.sorted g (hp.mem_iff.1 hg)) (fun g hg i hi k hk => ?_) ?_) fun x => ?_
 ·obtain ⟨j, hj, rfl⟩ := List.mem_iff_getElem.1 (hp.mem_iff.1 hg)
  rw [cls_at h hj hi, cls_at h hj hk]
 ·refine (List.Perm.pairwise_iff (fun {g h} hh i hi k hk e => hh k hk i hi e.symm) hp).2 ?_
  refine List.pairwise_iff_getElem.2 fun a b ha hb hab i hi k hk e => ?_
  rw [cls_at h ha hi, cls_at h hb hk] at e
  omega
 ·rw [List.mem_filter, List.mem_filter, List.mem_range, flat_mem h hp]
/-- What the patches are applied to. -/
def okT (T : List ByteArray) (s : List It) : Prop := validC s = true ∧ ∀ x ∈ s, x.id ∈ T
theorem okT_len {T : List ByteArray} {s : List It} (h : okT T s) : s.length ≤ T.length := by
 have := nodup_len (s.map It.id) T (ids_nodup h.1) fun x hx => by
  obtain ⟨y, hy, e⟩ := List.mem_map.1 hx
  exact e ▸ h.2 y hy
 rwa [List.length_map] at this
theorem okT_step {T : List ByteArray} {s t : List It} {p : Pt} (hp : p.id ∈ T) (h : okT T s) (e : applyP s p = (t, 0)) : okT T t := by
 have ho := ok_of_apply e
 obtain ⟨t', e', he⟩ := apply_of_ok ho
 obtain rfl : t = t' := by rw [e] at e'; injection e'
 refine ⟨he.valid, fun x hx => ?_⟩
 rcases (he.items x).1 hx with h1 | h1
 ·rw [h1, newI_id ho]
  exact hp
 ·exact h.2 x h1.1
/-- The patches, group by group, in whatever order of the groups. -/
theorem turned_run {T : List ByteArray} (hT : T.length + 2 ≤ 2000) {l : List Pt} (hl : ∀ p ∈ l, p.id ∈ T) {gs gs' : List (List Nat)} (h : GrpOk l gs) (hp : gs'.Perm gs) {s t : List It} (hs : okT T s) (hr : runT (stepP l) s (List.range l.length) = some t) : runT (stepP l) s gs'.flatten = some t := by
 refine run_classes (stepP l) (okT T) (clsG gs) (fun s i s' h1 h2 => ?_) (fun s a b s1 s2 h1 h2 h3 h4 => ?_) gs'.flatten (List.range l.length) s t hs (cls_same h hp) hr
 ·unfold stepP at h2
  cases hi : l[i]? with
  | none => rw [hi] at h2; cases h2
  | some p =>
   rw [hi] at h2
   exact okT_step (hl p (List.mem_of_getElem? hi)) h1 (oneP_iff.1 h2)
 ·unfold stepP at h3 h4 ⊢
  cases hi : l[a]? with
  | none => rw [hi] at h3; cases h3
  | some p =>
   cases hk : l[b]? with
   | none => rw [hk] at h4; cases h4
   | some q =>
    rw [hi] at h3
    rw [hk] at h4
    have := okT_len h1
    obtain ⟨m, e1, e2⟩ := free_run (cls_free h hi hk h2) (by omega) (oneP_iff.1 h3) (oneP_iff.1 h4)
    exact ⟨m, oneP_iff.2 e1, oneP_iff.2 e2⟩
/-- As many as before. -/
theorem turned_len {l : List Pt} {gs gs' : List (List Nat)} (h : GrpOk l gs) (hp : gs'.Perm gs) : gs'.flatten.length = l.length := by
 have hnd : gs'.flatten.Nodup := by
  refine (List.Perm.nodup_iff hp.flatten).2 (List.nodup_iff_pairwise_ne.2 (List.pairwise_flatten.2 ⟨fun g hg => (h.sorted g hg).imp (fun h => by omega), h.apart.imp fun hh i hi k hk => (hh i hi k hk).1⟩))
 have h1 := nodup_len gs'.flatten (List.range l.length) hnd fun x hx => List.mem_range.2 ((flat_mem h hp x).1 hx)
 have h2 := nodup_len (List.range l.length) gs'.flatten List.nodup_range fun x hx => (flat_mem h hp x).2 (List.mem_range.1 hx)
 rw [List.length_range] at h1 h2
 omega
end Go.Proofs.Ytgmimhgeigbpkaa.Dg
/- The places of a draft: an item behind the last one that is laid, in plain Lean. No program in sight. -/
namespace Go.Proofs.Ytgmimhgeigbpkaa.Dg
open Go
/-- The last item before an index in a division. -/
def nbP (l : List It) (i : Nat) (q : ByteArray) : ByteArray := ((kids (l.take i) q).getLast?).getD nil8
theorem kid_name {l : List It} (hv : validC l = true) {q d : ByteArray} (h : d ∈ kids l q) : d ≠ nil8 := by
 obtain ⟨x, hx, _, e⟩ := mem_kids.1 h
 rw [← e]
 exact name_ne (proper_name (valid_proper hv x hx))
theorem split_one {α : Type} {a : α} : ∀ {u u' v v' : List α}, u ++ a :: v = u' ++ a :: v' → a ∉ u → a ∉ u' → u = u' ∧ v = v'
 | [], [], v, v', h, _, _ => by injection h with _ h; exact ⟨rfl, h⟩
 | [], b :: u', v, v', h, _, h2 => by
  injection h with h _
  exact absurd (h ▸ List.mem_cons_self ..) h2
 | b :: u, [], v, v', h, h1, _ => by
  injection h with h _
  exact absurd (h ▸ List.mem_cons_self ..) h1
 | b :: u, c :: u', v, v', h, h1, h2 => by
  injection h with e h
  obtain ⟨e1, e2⟩ := split_one h (fun hm => h1 (List.mem_cons_of_mem _ hm)) (fun hm => h2 (List.mem_cons_of_mem _ hm))
  exact ⟨by rw [e, e1], e2⟩
theorem last_cases (pre : List ByteArray) : pre = [] ∨ ∃ u a, pre = u ++ [a] := by
 rcases List.eq_nil_or_concat pre with h | ⟨u, a, h⟩
 ·exact Or.inl h
 ·exact Or.inr ⟨u, a, by rw [h, List.concat_eq_append]⟩
/-- Laid in behind the last of a beginning. -/
theorem insK_last {pre rest : List ByteArray} {x : ByteArray} (hn : (pre ++ rest).Nodup) (hne : ∀ d ∈ pre, d ≠ nil8) : insK ((pre.getLast?).getD nil8) x (pre ++ rest) = pre ++ x :: rest := by
 rcases last_cases pre with rfl | ⟨u, a, rfl⟩
 ·unfold insK
  rw [List.getLast?_nil, Option.getD_none, if_pos rfl]
  rfl
 ·have ha := hne a (by simp)
  have hu : a ∉ u := fun hm => by
   have := (List.nodup_append.1 (List.nodup_append.1 hn).1).2.2 a hm a (List.mem_singleton.2 rfl)
   exact this rfl
  unfold insK
  rw [List.getLast?_append, List.getLast?_singleton]
  show (if a = nil8 then _ else insA a x _) = _
  rw [if_neg ha, List.append_assoc, List.singleton_append, insA_at a x u rest hu, List.append_assoc]
  rfl
theorem kids_mid {s : List It} {k : Nat} (hk : k < s.length) {q : ByteArray} (hq : s[k].parent = q) : kids s q = kids (s.take k) q ++ s[k].id :: kids (s.drop (k + 1)) q := by
 conv => lhs; rw [← List.take_append_drop k s, List.drop_eq_getElem_cons hk]
 rw [kids_append, kids_cons_yes _ hq]
/-- What stands behind the last of a beginning. -/
theorem next_kid {s : List It} (hv : validC s = true) {k : Nat} (hk : k < s.length) {q : ByteArray} (hq : s[k].parent = q) {pre rest : List ByteArray} (hp : kids s q = pre ++ rest) (hnb : nbP s k q = (pre.getLast?).getD nil8) : ∃ rest', rest = s[k].id :: rest' := by
 have hm := kids_mid hk hq
 have hnd := kids_nodup hv q
 have hname : ∀ d ∈ kids s q, d ≠ nil8 := fun d hd => kid_name hv hd
 unfold nbP at hnb
 rcases last_cases pre with rfl | ⟨u, a, rfl⟩
 ·rcases last_cases (kids (s.take k) q) with e | ⟨u', a', e⟩
  ·rw [e, hp] at hm
   exact ⟨_, hm⟩
  ·rw [e, List.getLast?_append, List.getLast?_singleton] at hnb
   have : a' = nil8 := hnb
   exact absurd this (hname a' (by rw [hm, e]; simp))
 ·rcases last_cases (kids (s.take k) q) with e | ⟨u', a', e⟩
  ·rw [e, List.getLast?_append, List.getLast?_singleton] at hnb
   have : nil8 = a := hnb
   exact absurd this.symm (hname a (by rw [hp]; simp))
  ·rw [e, List.getLast?_append, List.getLast?_append, List.getLast?_singleton, List.getLast?_singleton] at hnb
   have hab : a' = a := hnb
   subst hab
   rw [e, List.append_assoc, List.singleton_append] at hm
   rw [List.append_assoc, List.singleton_append] at hp
   rw [hp] at hm hnd
   have h1 : a' ∉ u := fun h => absurd rfl ((List.nodup_append.1 hnd).2.2 a' h a' (List.mem_cons_self ..))
   rw [hm] at hnd
   have h2 : a' ∉ u' := fun h => absurd rfl ((List.nodup_append.1 hnd).2.2 a' h a' (List.mem_cons_self ..))
   exact ⟨_, (split_one hm h1 h2).2⟩
/-- A code, seen from one of its items. -/
structure Sta (B : It → Prop) (d : ByteArray) (K : ByteArray → List ByteArray) (s : List It) (y : It) : Prop where
 valid : validC s = true
 id : y.id = d
 items : ∀ z, z ∈ s ↔ z = y ∨ B z
 other : ∀ z, B z → z.id ≠ d
 kids : ∀ q, kids s q = K q
theorem Sta.at {B : It → Prop} {d : ByteArray} {K : ByteArray → List ByteArray} {s : List It} {y : It} (h : Sta B d K s y) : itemA s d = y := by
 have := itemA_mem h.valid ((h.items y).2 (Or.inl rfl))
 rw [h.id] at this
 exact this
theorem sta_of {s : List It} (hv : validC s = true) {y : It} (hy : y ∈ s) : Sta (fun z => z ∈ s ∧ z.id ≠ y.id) y.id (kids s) s y := by
 refine ⟨hv, rfl, fun z => ⟨fun hz => ?_, fun h => ?_⟩, fun z hz => hz.2, fun _ => rfl⟩
 ·by_cases e : z.id = y.id
  ·left
   have h1 := itemA_mem hv hz
   have h2 := itemA_mem hv hy
   rw [e] at h1
   exact h1.symm.trans h2
  ·exact Or.inr ⟨hz, e⟩
 ·rcases h with rfl | h
  ·exact hy
  ·exact h.1
theorem Sta.step {B : It → Prop} {d : ByteArray} {K : ByteArray → List ByteArray} {s : List It} {y : It} (h : Sta B d K s y) {p : Pt} (hp : p.id = d) (ho : okP s p) : ∃ s', applyP s p = (s', 0) ∧ Sta B d (fun q => kidsP p q (K q)) s' (newI p y) := by
 obtain ⟨s', e, he⟩ := apply_of_ok ho
 have hi := newI_id ho
 rw [hp, h.at] at hi
 refine ⟨s', e, he.valid, hi, fun z => ?_, h.other, fun q => by rw [he.kids q, h.kids q]⟩
 rw [he.items z, hp, h.at, h.items z]
 constructor
 ·rintro (g | ⟨g | g, g2⟩)
  ·exact Or.inl g
  ·exact absurd (by rw [g]; exact h.id) g2
  ·exact Or.inr g
 ·rintro (g | g)
  ·exact Or.inl g
  ·exact Or.inr ⟨Or.inr g, h.other z g⟩
theorem Sta.still {B : It → Prop} {d : ByteArray} {K : ByteArray → List ByteArray} {s : List It} {y : It} (h : Sta B d K s y) {p : Pt} (hp : p.id = d) (hk : ¬ places p) (ho : okP s p) : ∃ s', applyP s p = (s', 0) ∧ Sta B d K s' (newI p y) := by
 obtain ⟨s', e, g⟩ := h.step hp ho
 refine ⟨s', e, g.valid, g.id, g.items, g.other, fun q => ?_⟩
 rw [g.kids q, kidsP_still hk]
theorem Sta.mem {B : It → Prop} {d : ByteArray} {K : ByteArray → List ByteArray} {s : List It} {y : It} (h : Sta B d K s y) : y ∈ s := (h.items y).2 (Or.inl rfl)
theorem ok_rev {B : It → Prop} {d : ByteArray} {K : ByteArray → List ByteArray} {s : List It} {y : It} (h : Sta B d K s y) (hg : y.gone = true) (hk : y.kind ≠ 1) : okP s (barePt 6 d) :=
 ⟨h.valid, by unfold formedP; simp [barePt], fun e => absurd e (by decide : ¬ (6 : Int) = 1), fun _ => ⟨y, h.mem, h.id, fun e => absurd e hk, fun _ => hg, fun e => absurd rfl e⟩, fun e => absurd e (by decide : ¬ (6 : Int) = 4), fun e => absurd e (by decide : ¬ (6 : Int) = 7)⟩
theorem ok_rep {B : It → Prop} {d : ByteArray} {K : ByteArray → List ByteArray} {s : List It} {y : It} (h : Sta B d K s y) (hg : y.gone = false) (hk : y.kind ≠ 1) : okP s (barePt 5 d) :=
 ⟨h.valid, by unfold formedP; simp [barePt], fun e => absurd e (by decide : ¬ (5 : Int) = 1), fun _ => ⟨y, h.mem, h.id, fun e => absurd e hk, fun e => absurd e (by decide : ¬ (5 : Int) = 6), fun _ => hg⟩, fun e => absurd e (by decide : ¬ (5 : Int) = 4), fun e => absurd e (by decide : ¬ (5 : Int) = 7)⟩
theorem valid_one {x : It} (hx : properI x = true) (hp : x.parent = nil8) : validC [x] = true := by
 have h : stepI ⟨[], []⟩ x = some ([], ⟨[x.id], if x.kind = 1 then [x.id] else []⟩) := by
  unfold stepI
  rw [if_pos ⟨hx, rfl⟩]
  unfold kOf
  rw [if_pos hp]
  rfl
 unfold validC
 show ((walkTo [x] 1).isSome && decide ((1 : Nat) ≤ 2000)) = true
 rw [walkTo_succ [x] 0 (by simp)]
 simp only [walkTo]
 show ((match stepI ⟨[], []⟩ x with | none => none | some (o, s') => some ([] ++ [o], s')).isSome && _) = true
 rw [h]
 rfl
/-- A patch of a number. -/
def numP (d n : ByteArray) : Pt := { barePt 3 d with number := n }
def textP (d a b : ByteArray) : Pt := { barePt 7 d with item := { zeroI with north := a, south := b } }
def goP (d q a : ByteArray) : Pt := { barePt 4 d with parent := q, after := a }
theorem ok_num {B : It → Prop} {d : ByteArray} {K : ByteArray → List ByteArray} {s : List It} {y : It} (h : Sta B d K s y) (hg : y.gone = false) {n : ByteArray} (hn : isNumB n = true) : okP s (numP d n) := by
 refine ⟨h.valid, ?_, fun e => absurd e (by decide : ¬ (3 : Int) = 1), fun _ => ⟨y, h.mem, h.id, fun _ => Or.inl rfl, fun e => absurd e (by decide : ¬ (3 : Int) = 6), fun _ => hg⟩, fun e => absurd e (by decide : ¬ (3 : Int) = 4), fun e => absurd e (by decide : ¬ (3 : Int) = 7)⟩
 have h1 : validC [⟨1, sDd, nil8, n, nil8, nil8, false⟩] = true := valid_one (by
  unfold properI
  show (if (1 : Int) = 1 then isNumB n && (isNameB sDd && (decide (nil8 = nil8) && (decide (nil8 = nil8) && !false))) else _) = true
  rw [if_pos rfl, hn]
  decide) rfl
 unfold formedP
 rw [if_neg (show ¬ (numP d n).kind = 1 from by show ¬ (3 : Int) = 1; decide), if_pos (by rfl : (numP d n).kind = 3), Bool.and_eq_true]
 exact ⟨decide_eq_true rfl, h1⟩
theorem ok_text {B : It → Prop} {d : ByteArray} {K : ByteArray → List ByteArray} {s : List It} {y : It} (h : Sta B d K s y) (hg : y.gone = false) (hk : y.kind ≠ 1) {a b : ByteArray} (ha : a.size ≤ 400) (hb : b.size ≤ 400) : okP s (textP d a b) := by
 refine ⟨h.valid, ?_, fun e => absurd e (by decide : ¬ (7 : Int) = 1), fun _ => ⟨y, h.mem, h.id, fun e => absurd e hk, fun e => absurd e (by decide : ¬ (7 : Int) = 6), fun _ => hg⟩, fun e => absurd e (by decide : ¬ (7 : Int) = 4), fun _ => ⟨ha, hb⟩⟩
 unfold formedP
 rw [if_neg (show ¬ (textP d a b).kind = 1 from by show ¬ (7 : Int) = 1; decide), if_neg (show ¬ (textP d a b).kind = 3 from by show ¬ (7 : Int) = 3; decide), if_neg (show ¬ (textP d a b).kind = 4 from by show ¬ (7 : Int) = 4; decide), if_neg (show ¬ ((textP d a b).kind = 5 ∨ (textP d a b).kind = 6) from by show ¬ ((7 : Int) = 5 ∨ (7 : Int) = 6); decide), if_pos (by rfl : (textP d a b).kind = 7)]
 exact decide_eq_true rfl
/-- An item may go there. -/
structure MoveOk (s : List It) (d q a : ByteArray) : Prop where
 place : existsP s (goP d q a) = true
 n1 : q ≠ d
 n2 : a ≠ d
 n3 : q ≠ nil8 → ¬ Anc s q d
theorem ok_go {B : It → Prop} {d : ByteArray} {K : ByteArray → List ByteArray} {s : List It} {y : It} (h : Sta B d K s y) (hg : y.gone = false) {q a : ByteArray} (hm : MoveOk s d q a) : okP s (goP d q a) := by
 have hd : d ≠ nil8 := by rw [← h.id]; exact name_ne (proper_name (valid_proper h.valid y h.mem))
 refine ⟨h.valid, ?_, fun e => absurd e (by decide : ¬ (4 : Int) = 1), fun _ => ⟨y, h.mem, h.id, fun _ => Or.inr rfl, fun e => absurd e (by decide : ¬ (4 : Int) = 6), fun _ => hg⟩, fun _ => ⟨hm.place, hm.n1, hm.n2, fun hne => ?_⟩, fun e => absurd e (by decide : ¬ (4 : Int) = 7)⟩
 ·unfold formedP
  rw [if_neg (show ¬ (goP d q a).kind = 1 from by show ¬ (4 : Int) = 1; decide), if_neg (show ¬ (goP d q a).kind = 3 from by show ¬ (4 : Int) = 3; decide), if_pos (by rfl : (goP d q a).kind = 4)]
  exact decide_eq_true rfl
 ·cases hu : underN s q d with
  | false => exact hu
  | true => exact absurd ((under_iff h.valid hd).1 hu) (hm.n3 hne)
theorem Sta.other_item {B : It → Prop} {d : ByteArray} {K K' : ByteArray → List ByteArray} {s s' : List It} {y y' : It} (h : Sta B d K s y) (h' : Sta B d K' s' y') {e : ByteArray} (he : e ≠ d) : itemA s' e = itemA s e := by
 by_cases hm : ∃ z, B z ∧ z.id = e
 ·obtain ⟨z, hz, e1⟩ := hm
  rw [← e1, itemA_mem h.valid ((h.items z).2 (Or.inr hz)), itemA_mem h'.valid ((h'.items z).2 (Or.inr hz))]
 ·rw [itemA_none (l := s) fun z hz e1 => by
   rcases (h.items z).1 hz with g | g
   ·exact he (by rw [← e1, g, h.id])
   ·exact hm ⟨z, g, e1⟩, itemA_none (l := s') fun z hz e1 => by
   rcases (h'.items z).1 hz with g | g
   ·exact he (by rw [← e1, g, h'.id])
   ·exact hm ⟨z, g, e1⟩]
/-- It still may, where only itself has changed. -/
theorem MoveOk.keep {B : It → Prop} {d : ByteArray} {K K' : ByteArray → List ByteArray} {s s' : List It} {y y' : It} (h : Sta B d K s y) (h' : Sta B d K' s' y') {q a : ByteArray} (hm : MoveOk s d q a) : MoveOk s' d q a := by
 refine ⟨?_, hm.n1, hm.n2, fun hne hA => hm.n3 hne (anc_back (A := d) (fun z hz hzd => ?_) hA ⟨hm.n1, fun z hz e => hm.n3 hne (e ▸ hz)⟩)⟩
 ·have h1 : itemA s' (goP d q a).parent = itemA s (goP d q a).parent := h.other_item h' hm.n1
  have h2 : itemA s' (goP d q a).after = itemA s (goP d q a).after := h.other_item h' hm.n2
  have := (exists_iff _ _).1 hm.place
  refine (exists_iff _ _).2 ?_
  rw [h1, h2]
  exact this
 ·rcases (h'.items z).1 hz with g | g
  ·exact absurd (by rw [g]; exact h'.id) hzd
  ·exact ⟨z, (h.items z).2 (Or.inr g), rfl, rfl⟩
end Go.Proofs.Ytgmimhgeigbpkaa.Dg
/- What the drafter does with one item, in plain Lean. No program in sight. -/
namespace Go.Proofs.Ytgmimhgeigbpkaa.Dg
open Go
theorem run_then {A C : List Pt} {s : List It} {P Q : List It → Prop} (h1 : ∃ t, runT oneP s A = some t ∧ P t) (h2 : ∀ t, P t → ∃ u, runT oneP t C = some u ∧ Q u) : ∃ u, runT oneP s (A ++ C) = some u ∧ Q u := by
 obtain ⟨t, e1, p1⟩ := h1
 obtain ⟨u, e2, p2⟩ := h2 t p1
 refine ⟨u, ?_, p2⟩
 rw [runT_append, e1]
 exact e2
theorem run_opt (c : Bool) {p : Pt} {s : List It} {P : List It → Prop} (h1 : c = true → ∃ t, applyP s p = (t, 0) ∧ P t) (h2 : c = false → P s) : ∃ t, runT oneP s (if c then [p] else []) = some t ∧ P t := by
 cases c with
 | true =>
  obtain ⟨t, e, hp⟩ := h1 rfl
  refine ⟨t, ?_, hp⟩
  rw [if_pos rfl, runT, oneP_iff.2 e]
  rfl
 | false => exact ⟨s, by rw [if_neg (by decide)]; rfl, h2 rfl⟩
/-- What is to change of an item, apart from its place. -/
def textsB (y x : It) : Bool := decide (y.north ≠ x.north ∨ y.south ≠ x.south)
def numB (y x : It) : Bool := decide (y.number ≠ x.number)
def revB (y x : It) (mv : Bool) : Bool := y.gone && (mv || (textsB y x || numB y x))
def stillB (y x : It) (mv : Bool) : Bool := y.gone && !revB y x mv
/-- The patches that make an item what it is to be. -/
def changeL (y x : It) (mv : Bool) (a : ByteArray) : List Pt :=
 (if revB y x mv then [barePt 6 x.id] else []) ++ ((if mv then [goP x.id x.parent a] else []) ++ ((if numB y x then [numP x.id x.number] else []) ++ ((if textsB y x then [textP x.id x.north x.south] else []) ++
  ((if stillB y x mv && !x.gone then [barePt 6 x.id] else []) ++ (if !stillB y x mv && x.gone then [barePt 5 x.id] else [])))))
theorem still_place {p : Pt} (h1 : p.kind ≠ 1) (h4 : p.kind ≠ 4) : ¬ places p := fun h => h.elim h1 h4
theorem proper_div {x : It} (h : properI x = true) (hk : x.kind = 1) : x.north = nil8 ∧ x.south = nil8 ∧ x.gone = false := by
 rcases proper_kind h with e | e
 ·exact ⟨e.2.2.1, e.2.2.2, e.2.1⟩
 ·rw [hk] at e
  exact absurd e.1 (by decide)
theorem proper_len {x : It} (h : properI x = true) : x.north.size ≤ 400 ∧ x.south.size ≤ 400 := by
 rcases proper_kind h with e | e
 ·rw [e.2.2.1, e.2.2.2]
  exact ⟨by decide, by decide⟩
 ·exact e.2
/-- The drafter makes an item what it is to be. -/
theorem change_run {B : It → Prop} {d : ByteArray} {K : ByteArray → List ByteArray} {s : List It} {y x : It} (h : Sta B d K s y) (hx : x.id = d) (hk : x.kind = y.kind) (hp : properI x = true) (mv : Bool) (a : ByteArray) (h0 : mv = false → y.parent = x.parent) (h1 : mv = true → MoveOk s d x.parent a) :
  ∃ s', runT oneP s (changeL y x mv a) = some s' ∧ Sta B d (if mv then fun q => kidsP (goP d x.parent a) q (K q) else K) s' x := by
 have hpy := valid_proper h.valid y h.mem
 have hdiv : y.kind = 1 → y.gone = false ∧ x.gone = false ∧ textsB y x = false := fun e => by
  obtain ⟨e1, e2, e3⟩ := proper_div hpy e
  obtain ⟨f1, f2, f3⟩ := proper_div hp (hk.trans e)
  refine ⟨e3, f3, ?_⟩
  unfold textsB
  rw [e1, e2, f1, f2]
  decide
 have hst : ∀ g : Bool, revB y x mv = g → (mv = true ∨ textsB y x = true ∨ numB y x = true) → stillB y x mv = false := fun g hg hh => by
  unfold stillB revB
  cases hyg : y.gone with
  | false => rfl
  | true => rcases hh with e | e | e <;> rw [e] <;> simp
 unfold changeL
 rw [hx]
 refine run_then (P := fun t => Sta B d K t { y with gone := stillB y x mv }) (run_opt _ (fun hr => ?_) (fun hr => ?_)) fun s1 g1 => ?_
 ·have hg : y.gone = true := by
   unfold revB at hr
   exact (Bool.and_eq_true_iff.1 hr).1
  have hn1 : y.kind ≠ 1 := fun e => by rw [(hdiv e).1] at hg; cases hg
  obtain ⟨t, e, g⟩ := h.still (p := barePt 6 d) rfl (still_place (by intro h; cases h) (by intro h; cases h)) (ok_rev h hg hn1)
  refine ⟨t, e, ?_⟩
  have e2 : stillB y x mv = false := by unfold stillB; rw [hr]; simp
  rw [e2]
  exact g
 ·have e2 : stillB y x mv = y.gone := by unfold stillB; rw [hr]; simp
  rw [e2]
  exact h
 refine run_then (P := fun t => Sta B d (if mv then fun q => kidsP (goP d x.parent a) q (K q) else K) t { y with gone := stillB y x mv, parent := x.parent }) (run_opt _ (fun hm => ?_) (fun hm => ?_)) fun s2 g2 => ?_
 ·obtain ⟨t, e, g⟩ := g1.step (p := goP d x.parent a) rfl (ok_go g1 (hst _ rfl (Or.inl hm)) ((h1 hm).keep h g1))
  refine ⟨t, e, ?_⟩
  rw [hm, if_pos rfl]
  rw [hm] at g
  exact g
 ·rw [hm, if_neg (by decide)]
  rw [hm] at g1
  have e : ({ y with gone := stillB y x false } : It) = { y with gone := stillB y x false, parent := x.parent } := by rw [← h0 hm]
  rw [← e]
  exact g1
 refine run_then (P := fun t => Sta B d (if mv then fun q => kidsP (goP d x.parent a) q (K q) else K) t { y with gone := stillB y x mv, parent := x.parent, number := x.number }) (run_opt _ (fun hm => ?_) (fun hm => ?_)) fun s3 g3 => ?_
 ·exact g2.still (p := numP d x.number) rfl (still_place (by intro h; cases h) (by intro h; cases h)) (ok_num g2 (hst _ rfl (Or.inr (Or.inr hm))) (proper_id hp).2)
 ·have e : y.number = x.number := by
   unfold numB at hm
   have := of_decide_eq_false hm
   exact Decidable.not_not.1 this
  have e' : ({ y with gone := stillB y x mv, parent := x.parent } : It) = { y with gone := stillB y x mv, parent := x.parent, number := x.number } := by rw [← e]
  rw [← e']
  exact g2
 refine run_then (P := fun t => Sta B d (if mv then fun q => kidsP (goP d x.parent a) q (K q) else K) t { y with gone := stillB y x mv, parent := x.parent, number := x.number, north := x.north, south := x.south }) (run_opt _ (fun hm => ?_) (fun hm => ?_)) fun s4 g4 => ?_
 ·have hn1 : y.kind ≠ 1 := fun e => by rw [(hdiv e).2.2] at hm; cases hm
  exact g3.still (p := textP d x.north x.south) rfl (still_place (by intro h; cases h) (by intro h; cases h)) (ok_text g3 (hst _ rfl (Or.inr (Or.inl hm))) hn1 (proper_len hp).1 (proper_len hp).2)
 ·have e : y.north = x.north ∧ y.south = x.south := by
   unfold textsB at hm
   have := of_decide_eq_false hm
   exact ⟨Decidable.not_not.1 fun n => this (Or.inl n), Decidable.not_not.1 fun n => this (Or.inr n)⟩
  have e' : ({ y with gone := stillB y x mv, parent := x.parent, number := x.number } : It) = { y with gone := stillB y x mv, parent := x.parent, number := x.number, north := x.north, south := x.south } := by rw [← e.1, ← e.2]
  rw [← e']
  exact g3
 have hfull : ({ y with gone := x.gone, parent := x.parent, number := x.number, north := x.north, south := x.south } : It) = x := by
  rw [← hk, show y.id = x.id from h.id.trans hx.symm]
 refine run_then (P := fun t => Sta B d (if mv then fun q => kidsP (goP d x.parent a) q (K q) else K) t { y with gone := stillB y x mv && x.gone, parent := x.parent, number := x.number, north := x.north, south := x.south }) (run_opt _ (fun hm => ?_) (fun hm => ?_)) fun s5 g5 => run_opt _ (fun hm => ?_) (fun hm => ?_)
 ·obtain ⟨hm1, hm2⟩ := Bool.and_eq_true_iff.1 hm
  have hg : y.gone = true := by
   unfold stillB at hm1
   exact (Bool.and_eq_true_iff.1 hm1).1
  have hn1 : y.kind ≠ 1 := fun e => by rw [(hdiv e).1] at hg; cases hg
  obtain ⟨t, e, g⟩ := g4.still (p := barePt 6 d) rfl (still_place (by intro h; cases h) (by intro h; cases h)) (ok_rev g4 hm1 hn1)
  refine ⟨t, e, ?_⟩
  have e2 : (stillB y x mv && x.gone) = false := by
   cases hxg : x.gone with
   | false => simp
   | true => rw [hxg] at hm2; cases hm2
  rw [e2]
  exact g
 ·have e2 : (stillB y x mv && x.gone) = stillB y x mv := by
   cases h5 : stillB y x mv with
   | false => simp
   | true =>
    rw [h5] at hm
    cases hxg : x.gone with
    | true => rfl
    | false => rw [hxg] at hm; cases hm
  rw [e2]
  exact g4
 ·obtain ⟨hm1, hm2⟩ := Bool.and_eq_true_iff.1 hm
  have hs : stillB y x mv = false := by
   cases h5 : stillB y x mv with
   | false => rfl
   | true => rw [h5] at hm1; cases hm1
  have hn1 : y.kind ≠ 1 := fun e => by rw [(hdiv e).2.1] at hm2; cases hm2
  rw [hs] at g5
  obtain ⟨t, e, g⟩ := g5.still (p := barePt 5 d) rfl (still_place (by intro h; cases h) (by intro h; cases h)) (ok_rep g5 rfl hn1)
  refine ⟨t, e, ?_⟩
  rw [hm2] at hfull
  rw [← hfull]
  exact g
 ·have e2 : (stillB y x mv && x.gone) = x.gone := by
   cases hxg : x.gone with
   | false => simp
   | true =>
    rw [hxg] at hm
    cases h5 : stillB y x mv with
    | true => rfl
    | false => rw [h5] at hm; cases hm
  rw [e2, hfull] at g5
  exact g5
end Go.Proofs.Ytgmimhgeigbpkaa.Dg
/- A draft leads from the one code to the other, in plain Lean. No program in sight. -/
namespace Go.Proofs.Ytgmimhgeigbpkaa.Dg
open Go
/-- A patch that lays an item in. -/
def insP (x : It) (a : ByteArray) : Pt := { barePt 1 x.id with parent := x.parent, after := a, item := x }
/-- Whether an item is to move. -/
def moveB (s : List It) (k : Nat) (x : It) (a : ByteArray) : Bool := decide ((s.getD k zeroI).parent ≠ x.parent ∨ nbP s k x.parent ≠ a)
/-- What the drafter does at an index. -/
def stepL (t2 s : List It) (i : Nat) : List Pt := match t2[i]? with
 | none => []
 | some x => match idxI s x.id with
  | none => [insP x (nbP t2 i x.parent)]
  | some k => changeL (s.getD k zeroI) x (moveB s k x (nbP t2 i x.parent)) (nbP t2 i x.parent)
/-- What is done behind an index. -/
structure DInv (t2 s : List It) (i : Nat) : Prop where
 valid : validC s = true
 ids : ∀ z ∈ s, ∃ x ∈ t2, x.id = z.id ∧ x.kind = z.kind
 done : ∀ j (_ : j < i) (hl : j < t2.length), t2[j] ∈ s
 pref : ∀ q, ∃ rest, kids s q = kids (t2.take i) q ++ rest
theorem kids_take {t2 : List It} {i : Nat} (hi : i < t2.length) (q : ByteArray) : kids (t2.take (i + 1)) q = kids (t2.take i) q ++ (if t2[i].parent = q then [t2[i].id] else []) := by
 rw [List.take_succ_eq_append_getElem hi, kids_append]
 by_cases h : t2[i].parent = q
 ·rw [if_pos h, kids_cons_yes _ h]
  rfl
 ·rw [if_neg h, kids_cons_no _ h]
  rfl
theorem take_kid {t2 : List It} {i : Nat} {q d : ByteArray} (h : d ∈ kids (t2.take i) q) : ∃ j, ∃ hj : j < t2.length, j < i ∧ t2[j].parent = q ∧ t2[j].id = d := by
 obtain ⟨x, hx, e1, e2⟩ := mem_kids.1 h
 obtain ⟨j, hj, rfl⟩ := List.mem_iff_getElem.1 hx
 rw [List.length_take] at hj
 rw [List.getElem_take] at e1 e2
 exact ⟨j, by omega, by omega, e1, e2⟩
theorem nb_cases (t2 : List It) (i : Nat) (q : ByteArray) : nbP t2 i q = nil8 ∨ nbP t2 i q ∈ kids (t2.take i) q := by
 unfold nbP
 rcases last_cases (kids (t2.take i) q) with e | ⟨u, a, e⟩
 ·rw [e]; exact Or.inl rfl
 ·rw [e, List.getLast?_append, List.getLast?_singleton]
  exact Or.inr (List.mem_append.2 (Or.inr (List.mem_singleton.2 rfl)))
theorem up_at {t2 : List It} (hv : validC t2 = true) {i : Nat} (hi : i < t2.length) : t2[i].parent = nil8 ∨ ∃ j, ∃ hj : j < t2.length, j < i ∧ t2[j].id = t2[i].parent ∧ t2[j].kind = 1 := by
 obtain ⟨s, hw, _⟩ := valid_walk hv
 rcases visit_up (Nat.le_refl _) hw hi with ⟨h1, _⟩ | ⟨_, j, x, o, hj, hx, hxi, hxk, _, _⟩
 ·exact Or.inl h1
 ·obtain ⟨hl, e⟩ := List.getElem?_eq_some_iff.1 hx
  exact Or.inr ⟨j, hl, hj, by rw [e]; exact hxi, by rw [e]; exact hxk⟩
theorem DInv.place {t2 s : List It} {i : Nat} (h : DInv t2 s i) (ht : validC t2 = true) (hi : i < t2.length) {p : Pt} (hp : p.parent = t2[i].parent) (ha : p.after = nbP t2 i t2[i].parent) : existsP s p = true := by
 refine (exists_iff s p).2 ⟨?_, ?_⟩
 ·rw [hp]
  rcases up_at ht hi with e | ⟨j, hl, hj, e, hk⟩
  ·exact Or.inl e
  ·right
   rw [← e, itemA_mem h.valid (h.done j hj hl), hk]
 ·rw [ha, hp]
  rcases nb_cases t2 i t2[i].parent with e | e
  ·exact Or.inl e
  ·obtain ⟨j, hl, hj, e1, e2⟩ := take_kid e
   right
   rw [← e2, itemA_mem h.valid (h.done j hj hl)]
   refine ⟨fun e0 => ?_, e1⟩
   rcases proper_kind (valid_proper ht _ (List.getElem_mem hl)) with g | g <;> rw [g.1] at e0 <;> exact absurd e0 (by decide)
theorem DInv.up {t2 s : List It} {i : Nat} (h : DInv t2 s i) (ht : validC t2 = true) {d z : ByteArray} (hA : Anc s d z) : (∃ j, ∃ hj : j < t2.length, j < i ∧ t2[j].id = d) → ∃ j, ∃ hj : j < t2.length, j < i ∧ t2[j].id = z := by
 have one : ∀ {x : It}, x ∈ s → ∀ {j : Nat} (hj : j < t2.length), j < i → t2[j].id = x.id → x.parent ≠ nil8 → ∃ j', ∃ hj' : j' < t2.length, j' < i ∧ t2[j'].id = x.parent := fun {x} hx {j} hl hj e hne => by
  have hxj : x = t2[j] := by
   have h1 := itemA_mem h.valid hx
   have h2 := itemA_mem h.valid (h.done j hj hl)
   rw [e] at h2
   exact h1.symm.trans h2
  subst hxj
  rcases up_at ht hl with g | ⟨j', hl', hj', g, _⟩
  ·exact absurd g hne
  ·exact ⟨j', hl', by omega, g⟩
 induction hA with
 | @up x hx hne =>
  rintro ⟨j, hl, hj, e⟩
  exact one hx hl hj e hne
 | @on x q hx hne _ ih =>
  rintro ⟨j, hl, hj, e⟩
  exact ih (one hx hl hj e hne)
theorem DInv.less {t2 s : List It} {i : Nat} (h : DInv t2 s i) (ht : validC t2 = true) (hi : i < t2.length) (hn : ∀ x ∈ s, x.id ≠ t2[i].id) : s.length < 2000 := by
 have h1 := nodup_len (t2[i].id :: s.map It.id) (t2.map It.id) (List.nodup_cons.2 ⟨fun hm => by
  obtain ⟨x, hx, e⟩ := List.mem_map.1 hm
  exact hn x hx e, ids_nodup h.valid⟩) fun x hx => by
  rcases List.mem_cons.1 hx with rfl | hx
  ·exact List.mem_map.2 ⟨_, List.getElem_mem hi, rfl⟩
  ·obtain ⟨z, hz, e⟩ := List.mem_map.1 hx
   obtain ⟨y, hy, e1, _⟩ := h.ids z hz
   exact List.mem_map.2 ⟨y, hy, e1.trans e⟩
 rw [List.length_cons, List.length_map, List.length_map] at h1
 obtain ⟨_, _, hl⟩ := valid_walk ht
 omega
/-- One index. -/
theorem DInv.step {t2 s : List It} {i : Nat} (h : DInv t2 s i) (ht : validC t2 = true) (hi : i < t2.length) : ∃ s', runT oneP s (stepL t2 s i) = some s' ∧ DInv t2 s' (i + 1) := by
 have hxp := valid_proper ht _ (List.getElem_mem hi)
 have hnew : ∀ q, t2[i].id ∉ kids (t2.take i) q := fun q hm => by
  obtain ⟨j, hl, hj, _, e⟩ := take_kid hm
  have := id_inj ht hl hi e
  omega
 have hkn : ∀ q, ∀ d ∈ kids (t2.take i) q, d ≠ nil8 := fun q d hd => by
  obtain ⟨j, hl, hj, _, e⟩ := take_kid hd
  rw [← e]
  exact name_ne (proper_name (valid_proper ht _ (List.getElem_mem hl)))
 have hdone : ∀ {s' : List It}, t2[i] ∈ s' → (∀ z ∈ s, z.id ≠ t2[i].id → z ∈ s') → ∀ j (_ : j < i + 1) (hl : j < t2.length), t2[j] ∈ s' := fun {s'} h1 h2 j hj hl => by
  by_cases e : j = i
  ·subst e; exact h1
  ·exact h2 _ (h.done j (by omega) hl) fun e' => e (id_inj ht hl hi e')
 unfold stepL
 rw [List.getElem?_eq_getElem hi]
 cases hix : idxI s t2[i].id with
 | none =>
  have hno := idxI_none hix
  have hok : okP s (insP t2[i] (nbP t2 i t2[i].parent)) := by
   refine ⟨h.valid, ?_, fun _ => ⟨hix, h.place ht hi rfl rfl, h.less ht hi hno⟩, fun e => absurd rfl e, fun e => absurd e (by decide : ¬ (1 : Int) = 4), fun e => absurd e (by decide : ¬ (1 : Int) = 7)⟩
   unfold formedP
   rw [if_pos (show (insP t2[i] (nbP t2 i t2[i].parent)).kind = 1 from rfl)]
   simp only [Bool.and_eq_true, decide_eq_true_eq]
   exact ⟨rfl, rfl, rfl, valid_one (x := { t2[i] with parent := nil8 }) hxp rfl⟩
  obtain ⟨s', e, he⟩ := apply_of_ok hok
  have hI : ∀ y, y ∈ s' ↔ y = t2[i] ∨ (y ∈ s ∧ y.id ≠ t2[i].id) := he.items
  have hK : ∀ q, Dg.kids s' q = if q = t2[i].parent then insK (nbP t2 i t2[i].parent) t2[i].id (kids s q) else kids s q := he.kids
  refine ⟨s', ?_, he.valid, fun z hz => ?_, hdone ((hI _).2 (Or.inl rfl)) fun z hz hne => (hI z).2 (Or.inr ⟨hz, hne⟩), fun q => ?_⟩
  ·simp only [hix]
   rw [runT, oneP_iff.2 e]
   rfl
  ·rcases (hI z).1 hz with g | g
   ·exact ⟨t2[i], List.getElem_mem hi, by rw [g], by rw [g]⟩
   ·exact h.ids z g.1
  ·obtain ⟨rest, hr⟩ := h.pref q
   rw [hK q, kids_take hi]
   have hnd : (kids (t2.take i) q ++ rest).Nodup := by rw [← hr]; exact kids_nodup h.valid q
   by_cases hq : q = t2[i].parent
   ·subst hq
    rw [if_pos rfl, if_pos rfl, hr]
    refine ⟨rest, ?_⟩
    unfold nbP
    rw [insK_last hnd (hkn _), List.append_assoc]
    rfl
   ·rw [if_neg hq, if_neg (fun e => hq e.symm), hr, List.append_nil]
    exact ⟨rest, rfl⟩
 | some k =>
  obtain ⟨hk, hid⟩ := idxI_some hix
  have hg : s.getD k zeroI = s[k] := by rw [List.getD_eq_getElem?_getD, List.getElem?_eq_getElem hk, Option.getD_some]
  obtain ⟨x', hx', e1, e2⟩ := h.ids s[k] (List.getElem_mem hk)
  have hx'e : x' = t2[i] := by
   obtain ⟨j, hj, rfl⟩ := List.mem_iff_getElem.1 hx'
   have := id_inj ht hj hi (e1.trans hid)
   subst this
   rfl
  subst hx'e
  have hst := sta_of h.valid (List.getElem_mem hk)
  rw [hid] at hst
  have hmv0 : moveB s k t2[i] (nbP t2 i t2[i].parent) = false → s[k].parent = t2[i].parent ∧ nbP s k t2[i].parent = nbP t2 i t2[i].parent := fun hm => by
   unfold moveB at hm
   rw [hg] at hm
   have := of_decide_eq_false hm
   exact ⟨Decidable.not_not.1 fun n => this (Or.inl n), Decidable.not_not.1 fun n => this (Or.inr n)⟩
  have hmv1 : MoveOk s t2[i].id t2[i].parent (nbP t2 i t2[i].parent) := by
   refine ⟨h.place ht hi rfl rfl, fun e => ?_, fun e => ?_, fun hne hA => ?_⟩
   ·rcases up_at ht hi with g | ⟨j, hl, hj, g, _⟩
    ·exact name_ne (proper_name hxp) (e.symm.trans g)
    ·have := id_inj ht hl hi (g.trans e)
     omega
   ·rcases nb_cases t2 i t2[i].parent with g | g
    ·exact name_ne (proper_name hxp) (e.symm.trans g)
    ·exact hnew _ (e ▸ g)
   ·rcases up_at ht hi with g | ⟨j, hl, hj, g, _⟩
    ·exact hne g
    ·obtain ⟨j', hl', hj', e'⟩ := h.up ht hA ⟨j, hl, hj, g⟩
     have := id_inj ht hl' hi e'
     omega
  obtain ⟨s', hrun, hS⟩ := change_run hst rfl e2 hxp (moveB s k t2[i] (nbP t2 i t2[i].parent)) (nbP t2 i t2[i].parent) (fun hm => (hmv0 hm).1) (fun _ => hmv1)
  refine ⟨s', by simp only [hix, hg]; exact hrun, hS.valid, fun z hz => ?_, hdone hS.mem fun z hz hne => (hS.items z).2 (Or.inr ⟨hz, hne⟩), fun q => ?_⟩
  ·rcases (hS.items z).1 hz with g | g
   ·exact ⟨t2[i], List.getElem_mem hi, by rw [g], by rw [g]⟩
   ·exact h.ids z g.1
  ·obtain ⟨rest, hr⟩ := h.pref q
   have hnd : (kids (t2.take i) q ++ rest).Nodup := by rw [← hr]; exact kids_nodup h.valid q
   rw [hS.kids q, kids_take hi]
   cases hm : moveB s k t2[i] (nbP t2 i t2[i].parent) with
   | true =>
    rw [if_pos rfl]
    have ho : outK t2[i].id (kids s q) = kids (t2.take i) q ++ outK t2[i].id rest := by
     rw [hr]
     have e : outK t2[i].id (kids (t2.take i) q ++ rest) = outK t2[i].id (kids (t2.take i) q) ++ outK t2[i].id rest := List.filter_append ..
     rw [e, outK_not (hnew q)]
    have hnd2 : (kids (t2.take i) q ++ outK t2[i].id rest).Nodup := by
     rw [← ho]
     exact (kids_nodup h.valid q).sublist List.filter_sublist
    show ∃ r, (if q = t2[i].parent then insK (nbP t2 i t2[i].parent) t2[i].id (outK t2[i].id (kids s q)) else outK t2[i].id (kids s q)) = _
    by_cases hq : q = t2[i].parent
    ·subst hq
     rw [if_pos rfl, if_pos rfl, ho]
     refine ⟨outK t2[i].id rest, ?_⟩
     unfold nbP
     rw [insK_last hnd2 (hkn _), List.append_assoc]
     rfl
    ·rw [if_neg hq, if_neg (fun e => hq e.symm), ho, List.append_nil]
     exact ⟨_, rfl⟩
   | false =>
    rw [if_neg (by decide)]
    by_cases hq : q = t2[i].parent
    ·subst hq
     obtain ⟨m1, m2⟩ := hmv0 hm
     obtain ⟨rest', e⟩ := next_kid h.valid hk m1 hr m2
     rw [if_pos rfl, hr, e, hid]
     exact ⟨rest', by rw [List.append_assoc]; rfl⟩
    ·rw [if_neg (fun e => hq e.symm), hr, List.append_nil]
     exact ⟨rest, rfl⟩
/-- At the end it is the other code. -/
theorem DInv.full {t2 s : List It} (h : DInv t2 s t2.length) (ht : validC t2 = true) : s = t2 := by
 have hin : ∀ z, z ∈ s → z ∈ t2 := fun z hz => by
  obtain ⟨x, hx, e, _⟩ := h.ids z hz
  obtain ⟨j, hj, rfl⟩ := List.mem_iff_getElem.1 hx
  have h1 := itemA_mem h.valid hz
  have h2 := itemA_mem h.valid (h.done j hj hj)
  rw [e] at h2
  rw [← h1, h2]
  exact hx
 refine same_code h.valid ht (fun q => ?_) fun y => ⟨hin y, fun hy => ?_⟩
 ·obtain ⟨rest, hr⟩ := h.pref q
  rw [List.take_length] at hr
  have hnd := kids_nodup h.valid q
  rw [hr] at hnd ⊢
  cases rest with
  | nil => exact List.append_nil _
  | cons d r =>
   exfalso
   have hd : d ∈ kids s q := by rw [hr]; simp
   obtain ⟨x, hx, e1, e2⟩ := mem_kids.1 hd
   exact (List.nodup_append.1 hnd).2.2 d (mem_kids.2 ⟨x, hin x hx, e1, e2⟩) d (List.mem_cons_self ..) rfl
 ·obtain ⟨j, hj, rfl⟩ := List.mem_iff_getElem.1 hy
  exact h.done j hj hj
end Go.Proofs.Ytgmimhgeigbpkaa.Dg
/- The patches of a draft, in order and group by group, in plain Lean. No program in sight. -/
namespace Go.Proofs.Ytgmimhgeigbpkaa.Dg
open Go
/-- A patch is laid in, and made where it is possible. -/
def doP (st : List It × List Pt) (p : Pt) : List It × List Pt := ((oneP st.1 p).getD st.1, st.2 ++ [p])
/-- The drafter behind the first i items. -/
def draftS (a t2 : List It) : Nat → List It × List Pt
 | 0 => (a, [])
 | i + 1 => (stepL t2 (draftS a t2 i).1 i).foldl doP (draftS a t2 i)
theorem do_run : ∀ (l : List Pt) (s t : List It) (ps : List Pt), runT oneP s l = some t → l.foldl doP (s, ps) = (t, ps ++ l)
 | [], s, t, ps, h => by
  injection h with h
  rw [List.foldl_nil, h, List.append_nil]
 | p :: l, s, t, ps, h => by
  rw [runT] at h
  cases h1 : oneP s p with
  | none => rw [h1] at h; cases h
  | some s1 =>
   rw [h1] at h
   rw [List.foldl_cons]
   have e : doP (s, ps) p = (s1, ps ++ [p]) := by unfold doP; rw [h1]; rfl
   rw [e, do_run l s1 t (ps ++ [p]) h, List.append_assoc]
   rfl
/-- Patches that a draft can hold. -/
def draftK (t2 : List It) (p : Pt) : Prop := (∃ x ∈ t2, x.id = p.id) ∧ (p.kind = 1 ∨ p.kind = 3 ∨ p.kind = 4 ∨ p.kind = 5 ∨ p.kind = 6 ∨ p.kind = 7)
theorem opt_mem {c : Bool} {p q : Pt} (h : q ∈ (if c then [p] else [])) : q = p := by
 cases c with
 | true => exact List.mem_singleton.1 h
 | false => exact absurd h (by simp)
theorem opt_len (c : Bool) (p : Pt) : (if c then [p] else []).length ≤ 1 := by cases c <;> simp
theorem change_kinds {y x : It} {mv : Bool} {a : ByteArray} {p : Pt} (h : p ∈ changeL y x mv a) : p.id = x.id ∧ (p.kind = 1 ∨ p.kind = 3 ∨ p.kind = 4 ∨ p.kind = 5 ∨ p.kind = 6 ∨ p.kind = 7) := by
 unfold changeL at h
 rcases List.mem_append.1 h with h | h
 ·rw [opt_mem h]; exact ⟨rfl, by simp [barePt]⟩
 rcases List.mem_append.1 h with h | h
 ·rw [opt_mem h]; exact ⟨rfl, by simp [goP, barePt]⟩
 rcases List.mem_append.1 h with h | h
 ·rw [opt_mem h]; exact ⟨rfl, by simp [numP, barePt]⟩
 rcases List.mem_append.1 h with h | h
 ·rw [opt_mem h]; exact ⟨rfl, by simp [textP, barePt]⟩
 rcases List.mem_append.1 h with h | h
 ·rw [opt_mem h]; exact ⟨rfl, by simp [barePt]⟩
 ·rw [opt_mem h]; exact ⟨rfl, by simp [barePt]⟩
theorem change_len (y x : It) (mv : Bool) (a : ByteArray) : (changeL y x mv a).length ≤ 6 := by
 unfold changeL
 rw [List.length_append, List.length_append, List.length_append, List.length_append, List.length_append]
 have h1 := opt_len (revB y x mv) (barePt 6 x.id)
 have h2 := opt_len mv (goP x.id x.parent a)
 have h3 := opt_len (numB y x) (numP x.id x.number)
 have h4 := opt_len (textsB y x) (textP x.id x.north x.south)
 have h5 := opt_len (stillB y x mv && !x.gone) (barePt 6 x.id)
 have h6 := opt_len (!stillB y x mv && x.gone) (barePt 5 x.id)
 omega
theorem step_kinds {t2 s : List It} {i : Nat} : (∀ p ∈ stepL t2 s i, draftK t2 p) ∧ (stepL t2 s i).length ≤ 6 := by
 unfold stepL
 cases hi : t2[i]? with
 | none => exact ⟨fun p hp => absurd hp (by simp), by simp⟩
 | some x =>
  have hx := List.mem_of_getElem? hi
  simp only
  cases idxI s x.id with
  | none =>
   refine ⟨fun p hp => ?_, by simp⟩
   rw [List.mem_singleton.1 hp]
   exact ⟨⟨x, hx, rfl⟩, Or.inl rfl⟩
  | some k =>
   exact ⟨fun p hp => ⟨⟨x, hx, (change_kinds hp).1.symm⟩, (change_kinds hp).2⟩, change_len ..⟩
/-- The codes of which there is a draft. -/
structure DraftOk (a t2 : List It) : Prop where
 va : validC a = true
 vt : validC t2 = true
 kinds : ∀ z ∈ a, ∃ x ∈ t2, x.id = z.id ∧ x.kind = z.kind
theorem draft_at {a t2 : List It} (h : DraftOk a t2) : ∀ i, i ≤ t2.length → runT oneP a (draftS a t2 i).2 = some (draftS a t2 i).1 ∧ DInv t2 (draftS a t2 i).1 i ∧ (∀ p ∈ (draftS a t2 i).2, draftK t2 p) ∧ (draftS a t2 i).2.length ≤ 6 * i
 | 0, _ => ⟨rfl, ⟨h.va, h.kinds, fun j hj => absurd hj (by omega), fun q => ⟨kids a q, rfl⟩⟩, fun p hp => absurd hp (by simp [draftS]), by simp [draftS]⟩
 | i + 1, hi => by
  obtain ⟨g1, g2, g3, g4⟩ := draft_at h i (by omega)
  obtain ⟨s', hr, hd⟩ := g2.step h.vt (by omega)
  obtain ⟨k1, k2⟩ := step_kinds (t2 := t2) (s := (draftS a t2 i).1) (i := i)
  have e : draftS a t2 (i + 1) = (s', (draftS a t2 i).2 ++ stepL t2 (draftS a t2 i).1 i) := by
   show (stepL t2 (draftS a t2 i).1 i).foldl doP ((draftS a t2 i).1, (draftS a t2 i).2) = _
   exact do_run _ _ _ _ hr
  rw [e]
  refine ⟨?_, hd, fun p hp => ?_, ?_⟩
  ·rw [runT_append, g1]
   exact hr
  ·rcases List.mem_append.1 hp with hp | hp
   ·exact g3 p hp
   ·exact k1 p hp
  ·show ((draftS a t2 i).2 ++ _).length ≤ _
   rw [List.length_append]
   omega
/-- A draft leads from the one code to the other. -/
theorem draft_all {a t2 : List It} (h : DraftOk a t2) : (draftS a t2 t2.length).1 = t2 ∧ runT oneP a (draftS a t2 t2.length).2 = some t2 ∧ (∀ p ∈ (draftS a t2 t2.length).2, draftK t2 p) := by
 obtain ⟨g1, g2, g3, _⟩ := draft_at h t2.length (Nat.le_refl _)
 have e := g2.full h.vt
 rw [e] at g1
 exact ⟨e, g1, g3⟩
/-- Patches by their indices. -/
def pickP (l : List Pt) (is : List Nat) : List Pt := is.filterMap fun i => l[i]?
theorem run_pick (l : List Pt) : ∀ (is : List Nat) (s : List It), (∀ i ∈ is, i < l.length) → runT (stepP l) s is = runT oneP s (pickP l is)
 | [], _, _ => rfl
 | i :: is, s, h => by
  have hi := h i (List.mem_cons_self ..)
  have e : pickP l (i :: is) = l[i] :: pickP l is := by
   unfold pickP
   rw [List.filterMap_cons, List.getElem?_eq_getElem hi]
  have e2 : stepP l s i = oneP s l[i] := by unfold stepP; rw [List.getElem?_eq_getElem hi]
  rw [e, runT, runT, e2]
  cases oneP s l[i] with
  | none => rfl
  | some t => exact run_pick l is t fun j hj => h j (List.mem_cons_of_mem _ hj)
theorem pick_len (l : List Pt) : ∀ (is : List Nat), (∀ i ∈ is, i < l.length) → (pickP l is).length = is.length
 | [], _ => rfl
 | i :: is, h => by
  have hi := h i (List.mem_cons_self ..)
  have e : pickP l (i :: is) = l[i] :: pickP l is := by
   unfold pickP
   rw [List.filterMap_cons, List.getElem?_eq_getElem hi]
  rw [e, List.length_cons, List.length_cons, pick_len l is fun j hj => h j (List.mem_cons_of_mem _ hj)]
theorem pick_range (l : List Pt) : pickP l (List.range l.length) = l := by
 apply List.ext_getElem?
 intro k
 have hall : ∀ i ∈ List.range l.length, i < l.length := fun i hi => List.mem_range.1 hi
 have : ∀ n, n ≤ l.length → pickP l (List.range n) = l.take n := by
  intro n
  induction n with
  | zero => intro _; rfl
  | succ n ih =>
   intro hn
   rw [List.range_succ, List.take_succ_eq_append_getElem (by omega), ← ih (by omega)]
   unfold pickP
   rw [List.filterMap_append]
   congr 1
   rw [List.filterMap_cons, List.getElem?_eq_getElem (by omega)]
   rfl
 rw [this l.length (Nat.le_refl _), List.take_length]
/-- The groups of a draft, in whatever order. -/
theorem draft_turned {a t2 : List It} (h : DraftOk a t2) (hsz : t2.length + 2 ≤ 2000) {gs gs' : List (List Nat)} (hg : GrpOk (draftS a t2 t2.length).2 gs) (hp : gs'.Perm gs) : runT oneP a (pickP (draftS a t2 t2.length).2 gs'.flatten) = some t2 ∧ (pickP (draftS a t2 t2.length).2 gs'.flatten).length = (draftS a t2 t2.length).2.length ∧ ∀ p ∈ pickP (draftS a t2 t2.length).2 gs'.flatten, draftK t2 p := by
 obtain ⟨_, h2, h3⟩ := draft_all h
 generalize (draftS a t2 t2.length).2 = l at *
 have hin : ∀ i ∈ gs'.flatten, i < l.length := fun i hi => (flat_mem hg hp i).1 hi
 have hr : runT (stepP l) a (List.range l.length) = some t2 := by
  rw [run_pick l _ a fun i hi => List.mem_range.1 hi, pick_range]
  exact h2
 refine ⟨?_, ?_, fun p hp' => ?_⟩
 ·rw [← run_pick l _ a hin]
  refine turned_run (T := t2.map It.id) (by rw [List.length_map]; exact hsz) (fun p hp' => ?_) hg hp ⟨h.va, fun x hx => ?_⟩ hr
  ·obtain ⟨⟨x, hx, e⟩, _⟩ := h3 p hp'
   exact List.mem_map.2 ⟨x, hx, e⟩
  ·obtain ⟨y, hy, e, _⟩ := h.kinds x hx
   exact List.mem_map.2 ⟨y, hy, e⟩
 ·rw [pick_len l _ hin]
  exact turned_len hg hp
 ·obtain ⟨i, _, hi⟩ := List.mem_filterMap.1 hp'
  exact h3 p (List.mem_of_getElem? hi)
end Go.Proofs.Ytgmimhgeigbpkaa.Dg
/- Patches taken back, in plain Lean. No program in sight. -/
namespace Go.Proofs.Ytgmimhgeigbpkaa.Dg
open Go
/-- The patch that takes one back: of the item as it was, behind the one that stood ahead of it. -/
def backP (p : Pt) (y : It) (a : ByteArray) : Pt :=
 if p.kind = 3 then numP p.id y.number else if p.kind = 4 then goP p.id y.parent a else if p.kind = 5 then barePt 6 p.id else if p.kind = 6 then barePt 5 p.id else textP p.id y.north y.south
/-- What Invert answers. -/
def invP (l : List It) (p : Pt) : Pt × Int :=
 if (applyP l p).2 ≠ 0 then (barePt 0 nil8, (applyP l p).2)
 else if p.kind = 1 then (barePt 0 nil8, 12)
 else (backP p (itemA l p.id) (nbP l ((idxI l p.id).getD 0) (itemA l p.id).parent), 0)
theorem outK_insA_own (a x : ByteArray) : ∀ ks : List ByteArray, outK x (insA a x ks) = outK x ks
 | [] => by rw [insA]; exact outK_cons_yes
 | k :: r => by
  rw [insA]
  by_cases h : k = a
  ·rw [if_pos h]
   by_cases hx : k = x
   ·subst hx; rw [outK_cons_yes, outK_cons_yes]
   ·rw [outK_cons_no hx, outK_cons_no hx, outK_cons_yes]
  ·rw [if_neg h]
   by_cases hx : k = x
   ·rw [hx, outK_cons_yes, outK_cons_yes, outK_insA_own a x r]
   ·rw [outK_cons_no hx, outK_cons_no hx, outK_insA_own a x r]
theorem outK_insK_own (a x : ByteArray) (ks : List ByteArray) : outK x (insK a x ks) = outK x ks := by
 unfold insK
 split
 ·exact outK_cons_yes
 ·exact outK_insA_own a x ks
theorem outK_twice (x : ByteArray) (ks : List ByteArray) : outK x (outK x ks) = outK x ks := outK_not fun h => (mem_outK.1 h).2 rfl
theorem self_inv {c : List It} (hv : validC c = true) (i : Nat) : DInv c c i :=
 ⟨hv, fun z hz => ⟨z, hz, rfl, rfl⟩, fun _ _ hl => List.getElem_mem hl, fun q => ⟨kids (c.drop i) q, (kids_cut c i q).symm⟩⟩
/-- An item may go to where it stands. -/
theorem home_ok {c : List It} (hv : validC c = true) {i : Nat} (hi : i < c.length) : MoveOk c c[i].id c[i].parent (nbP c i c[i].parent) := by
 have h := self_inv hv i
 have hn := name_ne (proper_name (valid_proper hv _ (List.getElem_mem hi)))
 refine ⟨h.place hv hi rfl rfl, fun e => ?_, fun e => ?_, fun hne hA => ?_⟩
 ·rcases up_at hv hi with g | ⟨j, hl, hj, g, _⟩
  ·exact hn (e.symm.trans g)
  ·have := id_inj hv hl hi (g.trans e)
   omega
 ·rcases nb_cases c i c[i].parent with g | g
  ·exact hn (e.symm.trans g)
  ·obtain ⟨j, hl, hj, _, e2⟩ := take_kid (e ▸ g)
   have := id_inj hv hl hi e2
   omega
 ·rcases up_at hv hi with g | ⟨j, hl, hj, g, _⟩
  ·exact hne g
  ·obtain ⟨j', hl', hj', e'⟩ := h.up hv hA ⟨j, hl, hj, g⟩
   have := id_inj hv hl' hi e'
   omega
theorem home_kids {c : List It} (hv : validC c = true) {i : Nat} (hi : i < c.length) (q : ByteArray) : (if q = c[i].parent then insK (nbP c i c[i].parent) c[i].id (outK c[i].id (kids c q)) else outK c[i].id (kids c q)) = kids c q := by
 by_cases hq : q = c[i].parent
 ·subst hq
  rw [if_pos rfl]
  have hm := kids_mid hi (q := c[i].parent) rfl
  have hnd := kids_nodup hv c[i].parent
  have hkn : ∀ d ∈ kids (c.take i) c[i].parent, d ≠ nil8 := fun d hd => kid_name hv (q := c[i].parent) (by rw [hm]; exact List.mem_append.2 (Or.inl hd))
  rw [hm] at hnd
  have h1 : c[i].id ∉ kids (c.take i) c[i].parent := fun h => (List.nodup_append.1 hnd).2.2 _ h _ (List.mem_cons_self ..) rfl
  have h2 : c[i].id ∉ kids (c.drop (i + 1)) c[i].parent := (List.nodup_cons.1 (List.nodup_append.1 hnd).2.1).1
  have ho : outK c[i].id (kids c c[i].parent) = kids (c.take i) c[i].parent ++ kids (c.drop (i + 1)) c[i].parent := by
   rw [hm]
   have e : outK c[i].id (kids (c.take i) c[i].parent ++ c[i].id :: kids (c.drop (i + 1)) c[i].parent) = outK c[i].id (kids (c.take i) c[i].parent) ++ outK c[i].id (c[i].id :: kids (c.drop (i + 1)) c[i].parent) := List.filter_append ..
   rw [e, outK_not h1, outK_cons_yes, outK_not h2]
  have hnd2 : (kids (c.take i) c[i].parent ++ kids (c.drop (i + 1)) c[i].parent).Nodup := by
   rw [← ho]
   exact (kids_nodup hv _).sublist List.filter_sublist
  rw [ho]
  conv => rhs; rw [hm]
  unfold nbP
  exact insK_last hnd2 hkn
 ·rw [if_neg hq]
  refine outK_not fun h => ?_
  obtain ⟨x, hx, e1, e2⟩ := mem_kids.1 h
  obtain ⟨j, hj, rfl⟩ := List.mem_iff_getElem.1 hx
  have := id_inj hv hj hi e2
  subst this
  exact hq e1.symm
/-- Taken back, the code is as it was. -/
theorem inv_back {c d : List It} {p : Pt} (h : applyP c p = (d, 0)) (hk : p.kind ≠ 1) : (invP c p).2 = 0 ∧ applyP d (invP c p).1 = (c, 0) ∧ (invP c p).1.kind ≠ 1 ∧ (invP c p).1.kind ≠ 2 := by
 have ho := ok_of_apply h
 have hv := ho.valid
 obtain ⟨y, hy, hid, c1, c2, c3⟩ := ho.item hk
 obtain ⟨i, hi, rfl⟩ := List.mem_iff_getElem.1 hy
 have hix : idxI c p.id = some i := by rw [← hid]; exact idxI_at hv hi
 have hA : itemA c p.id = c[i] := by rw [← hid]; exact itemA_mem hv hy
 have e : invP c p = (backP p c[i] (nbP c i c[i].parent), 0) := by
  unfold invP
  rw [if_neg (by rw [h]; simp), if_neg hk, hA, hix]
  rfl
 rw [e]
 have hst := sta_of hv hy
 rw [hid] at hst
 obtain ⟨d', e', hS⟩ := hst.step rfl ho
 obtain rfl : d = d' := by rw [h] at e'; injection e'
 have hpr := valid_proper hv _ hy
 -- with the item as it was, and the orders as they were, the code is the same
 have fin : ∀ {q : Pt}, q.id = p.id → okP d q → newI q (newI p c[i]) = c[i] → (∀ k, kidsP q k (kidsP p k (kids c k)) = kids c k) → applyP d q = (c, 0) := fun {q} hq hok hn hK => by
  obtain ⟨s, e2, hS2⟩ := hS.step hq hok
  rw [e2]
  have : s = c := same_code hS2.valid hv (fun k => by rw [hS2.kids k]; exact hK k) fun z => by
   rw [hS2.items z, hn]
   exact (hst.items z).symm
  rw [this]
 have still : ∀ {q : Pt}, ¬ places p → ¬ places q → ∀ k, kidsP q k (kidsP p k (kids c k)) = kids c k := fun {q} h1 h2 k => by rw [kidsP_still h2, kidsP_still h1]
 have hid' : c[i].id = p.id := hid
 refine ⟨rfl, ?_⟩
 show applyP d (backP p c[i] (nbP c i c[i].parent)) = (c, 0) ∧ _
 rcases formed_kind ho.formed with k | k | k | k | k | k
 ·exact absurd k hk
 ·have hg : c[i].gone = false := c3 (by rw [k]; decide)
  have eb : backP p c[i] (nbP c i c[i].parent) = numP p.id c[i].number := by unfold backP; rw [if_pos k]
  have en : newI p c[i] = { c[i] with number := p.number } := by unfold newI; rw [if_neg (by rw [k]; decide), if_pos k]
  rw [eb]
  refine ⟨fin rfl (ok_num hS (by rw [en]; exact hg) (proper_id hpr).2) (by rw [en]; rfl) (still (by unfold places; omega) (fun e => e.elim (fun e => absurd e (by intro e; cases e)) (fun e => absurd e (by intro e; cases e)))), (by intro e; cases e), (by intro e; cases e)⟩
 ·have hg : c[i].gone = false := c3 (by rw [k]; decide)
  have eb : backP p c[i] (nbP c i c[i].parent) = goP p.id c[i].parent (nbP c i c[i].parent) := by unfold backP; rw [if_neg (by rw [k]; decide), if_pos k]
  have en : newI p c[i] = { c[i] with parent := p.parent } := by unfold newI; rw [if_neg (by rw [k]; decide), if_neg (by rw [k]; decide), if_pos k]
  rw [eb]
  have hm := home_ok hv hi
  rw [hid] at hm
  refine ⟨fin rfl (ok_go hS (by rw [en]; exact hg) (hm.keep hst hS)) (by rw [en]; rfl) (fun q => ?_), (by intro e; cases e), (by intro e; cases e)⟩
  have h1 : kidsP p q (kids c q) = if q = p.parent then insK p.after p.id (outK p.id (kids c q)) else outK p.id (kids c q) := by unfold kidsP; rw [if_neg (by rw [k]; decide), if_pos k]
  have h2 : outK p.id (kidsP p q (kids c q)) = outK p.id (kids c q) := by
   rw [h1]
   split
   ·rw [outK_insK_own, outK_twice]
   ·rw [outK_twice]
  show (if q = c[i].parent then insK (nbP c i c[i].parent) p.id (outK p.id (kidsP p q (kids c q))) else outK p.id (kidsP p q (kids c q))) = kids c q
  rw [h2]
  have := home_kids hv hi q
  rw [hid] at this
  exact this
 ·have hg : c[i].gone = false := c3 (by rw [k]; decide)
  have hn1 : c[i].kind ≠ 1 := fun e => by have := c1 e; omega
  have eb : backP p c[i] (nbP c i c[i].parent) = barePt 6 p.id := by unfold backP; rw [if_neg (by rw [k]; decide), if_neg (by rw [k]; decide), if_pos k]
  have en : newI p c[i] = { c[i] with gone := true } := by unfold newI; rw [if_neg (by rw [k]; decide), if_neg (by rw [k]; decide), if_neg (by rw [k]; decide), if_neg (by rw [k]; decide), decide_eq_true k]
  rw [eb]
  refine ⟨fin rfl (ok_rev hS (by rw [en]) (by rw [en]; exact hn1)) ?_ (still (by unfold places; omega) (fun e => e.elim (fun e => absurd e (by intro e; cases e)) (fun e => absurd e (by intro e; cases e)))), (by intro e; cases e), (by intro e; cases e)⟩
  rw [en]
  show ({ c[i] with gone := false } : It) = c[i]
  rw [← hg]
 ·have hg : c[i].gone = true := c2 k
  have hn1 : c[i].kind ≠ 1 := fun e => by have := c1 e; omega
  have eb : backP p c[i] (nbP c i c[i].parent) = barePt 5 p.id := by unfold backP; rw [if_neg (by rw [k]; decide), if_neg (by rw [k]; decide), if_neg (by rw [k]; decide), if_pos k]
  have en : newI p c[i] = { c[i] with gone := false } := by unfold newI; rw [if_neg (by rw [k]; decide), if_neg (by rw [k]; decide), if_neg (by rw [k]; decide), if_neg (by rw [k]; decide), decide_eq_false (by rw [k]; decide)]
  rw [eb]
  refine ⟨fin rfl (ok_rep hS (by rw [en]) (by rw [en]; exact hn1)) ?_ (still (by unfold places; omega) (fun e => e.elim (fun e => absurd e (by intro e; cases e)) (fun e => absurd e (by intro e; cases e)))), (by intro e; cases e), (by intro e; cases e)⟩
  rw [en]
  show ({ c[i] with gone := true } : It) = c[i]
  rw [← hg]
 ·have hg : c[i].gone = false := c3 (by rw [k]; decide)
  have hn1 : c[i].kind ≠ 1 := fun e => by have := c1 e; omega
  have eb : backP p c[i] (nbP c i c[i].parent) = textP p.id c[i].north c[i].south := by unfold backP; rw [if_neg (by rw [k]; decide), if_neg (by rw [k]; decide), if_neg (by rw [k]; decide), if_neg (by rw [k]; decide)]
  have en : newI p c[i] = { c[i] with north := p.item.north, south := p.item.south } := by unfold newI; rw [if_neg (by rw [k]; decide), if_neg (by rw [k]; decide), if_neg (by rw [k]; decide), if_pos k]
  rw [eb]
  obtain ⟨t1, t2⟩ := proper_len hpr
  refine ⟨fin rfl (ok_text hS (by rw [en]; exact hg) (by rw [en]; exact hn1) t1 t2) (by rw [en]; rfl) (still (by unfold places; omega) (fun e => e.elim (fun e => absurd e (by intro e; cases e)) (fun e => absurd e (by intro e; cases e)))), (by intro e; cases e), (by intro e; cases e)⟩
end Go.Proofs.Ytgmimhgeigbpkaa.Dg
/- Apply of package patch, of whatever patch but of words. No conditions but those that each theorem states. -/
namespace Go.Proofs.Ytgmimhgeigbpkaa
open Go Go.RowKit Go.Sort Go.Maps
theorem apply_of (l : List Dg.It) (A : Option Addr) (n c : Nat) (hl : l.length = n) (hn : n ≤ 1048576) (hnc : n ≤ c) (hw : ∀ x ∈ l, ItW x) (p : Dg.Pt) (hp : PtW p) (h2 : p.kind ≠ 2) (w : World) (hI : Its w w.heap.size A l) :
  Calls Try.prog 11 #[.agg #[.slice A n c], .agg #[.int .i64 p.1, .string p.2, .string p.3, .string p.4, .string p.5, .int .i64 p.6.1, .string p.6.2, .string p.6.3, .string p.6.4, .string p.6.5, .string p.6.6, .bool p.6.7, .int .i64 p.7, .string p.8, .string p.9]] w (ApR (Dg.applyP l p) w) := by
 have bt (a b : Int) (h : a = b) : (a == b) = true := beq_iff_eq.2 h
 have bf (a b : Int) (h : a ≠ b) : (a == b) = false := beq_eq_false_iff_ne.2 h
 have nt (a b : Int) (h : a ≠ b) : (a != b) = true := by rw [bne, bf a b h]; rfl
 have nf (a b : Int) (h : a = b) : (a != b) = false := by rw [bne, bt a b h]; rfl
 unfold Dg.applyP
 cases hv : Dg.validC l with
 | false =>
  rw [if_pos (Or.inl rfl)]
  exact apply_inv l A n c hl hn hw p hp h2 hv w hI
 | true =>
 cases hf : Dg.formedP p with
 | false =>
  rw [if_pos (Or.inr rfl)]
  exact apply_unf l A n c hl hn hw p hp h2 hv hf w hI
 | true =>
 rw [if_neg (fun h => by rcases h with h | h <;> cases h)]
 by_cases h1 : p.kind = 1
 ·rw [if_pos h1]
  exact apply_ins l A n c hl hn hw p hp h2 hv h1 hf w hI
 rw [if_neg h1]
 cases hi : Dg.idxI l p.id with
 | none =>
  have hy : Dg.itemA l p.id = Dg.zeroI := by unfold Dg.itemA; rw [hi]
  exact apply_none l A n c hl hn hw p hp h2 hv _ hy hf (nt _ _ h1) rfl w hI
 | some i =>
  obtain ⟨hil, hid⟩ := Dg.idxI_some hi
  obtain ⟨y, hyd⟩ : ∃ y, l.getD i Dg.zeroI = y := ⟨_, rfl⟩
  have hy : Dg.itemA l p.id = y := by unfold Dg.itemA; rw [hi]; exact hyd
  have hyl : y ∈ l := by
   rw [← hyd, List.getD_eq_getElem?_getD, List.getElem?_eq_getElem hil, Option.getD_some]
   exact List.getElem_mem hil
  have hpr := Dg.valid_proper hv y hyl
  have y0 : (y.kind == 0) = false := bf _ _ (fun e => by
   rcases Dg.proper_kind hpr with h | h
   ·rw [h.1] at e; cases e
   ·rw [h.1] at e; cases e)
  show Calls Try.prog 11 #[.agg #[.slice A n c], .agg #[.int .i64 p.1, .string p.2, .string p.3, .string p.4, .string p.5, .int .i64 p.6.1, .string p.6.2, .string p.6.3, .string p.6.4, .string p.6.5, .string p.6.6, .bool p.6.7, .int .i64 p.7, .string p.8, .string p.9]] w (ApR (if (l.getD i Dg.zeroI).kind = 1 ∧ p.kind ≠ 3 ∧ p.kind ≠ 4 then ([], 11) else _) w)
  rw [hyd]
  by_cases ha : y.kind = 1 ∧ p.kind ≠ 3 ∧ p.kind ≠ 4
  ·rw [if_pos ha]
   exact apply_art l A n c hl hn hw p hp h2 hv y hy hf (nt _ _ h1) y0 (bt _ _ ha.1) (nt _ _ ha.2.1) (nt _ _ ha.2.2) w hI
  rw [if_neg ha]
  by_cases hs : p.kind = 6 ∧ y.gone = false
  ·rw [if_pos hs]
   exact apply_state l A n c hl hn hw p hp h2 hv y hy hf (nt _ _ h1) y0 (bf _ _ (fun e => ha ⟨e, by rw [hs.1]; decide, by rw [hs.1]; decide⟩)) (bt _ _ hs.1) hs.2 w hI
  rw [if_neg hs]
  by_cases hg : p.kind ≠ 6 ∧ y.gone = true
  ·rw [if_pos hg]
   refine apply_gone l A n c hl hn hw p hp h2 hv y hy hf (nt _ _ h1) y0 (bf _ _ fun e => ?_) (bf _ _ hg.1) (nt _ _ hg.1) hg.2 w hI
   have := (Dg.proper_div hpr e).2.2
   rw [hg.2] at this
   cases this
  rw [if_neg hg]
  have yg : p.kind ≠ 6 → y.gone = false := fun h => by
   cases h9 : y.gone with
   | false => rfl
   | true => exact absurd ⟨h, h9⟩ hg
  by_cases h3 : p.kind = 3
  ·rw [if_pos h3]
   exact apply_number l A n c hl hn hw p hp h2 hv y hy hf i hi h3 y0 (yg (by rw [h3]; decide)) w hI
  rw [if_neg h3]
  by_cases h4 : p.kind = 4
  ·rw [if_pos h4, ← hyd]
   obtain ⟨b, off, rfl⟩ := hI.some hil
   exact apply_move l b off n c hl hn hnc hw p hp h2 hv y hy hf i hi h4 y0 (yg (by rw [h4]; decide)) w hI
  rw [if_neg h4]
  have y1 : (y.kind == 1) = false := bf _ _ (fun e => ha ⟨e, h3, h4⟩)
  by_cases h7 : p.kind = 7
  ·rw [if_pos h7]
   have yg7 := yg (by rw [h7]; decide)
   by_cases hN : 400 < p.item.north.size
   ·rw [if_pos (Or.inl hN)]
    exact apply_replace_n l A n c hl hn hw p hp h2 hv y hy hf i hi h7 y0 y1 yg7 (by omega) w hI
   by_cases hS : 400 < p.item.south.size
   ·rw [if_pos (Or.inr hS)]
    exact apply_replace_s l A n c hl hn hw p hp h2 hv y hy hf i hi h7 y0 y1 yg7 (by omega) (by omega) w hI
   rw [if_neg (fun h => h.elim hN hS)]
   exact apply_replace l A n c hl hn hw p hp h2 hv y hy hf i hi h7 y0 y1 yg7 (by omega) (by omega) w hI
  rw [if_neg h7]
  rcases Dg.formed_kind hf with k | k | k | k | k | k
  ·exact absurd k h1
  ·exact absurd k h3
  ·exact absurd k h4
  ·rw [show decide (p.kind = 5) = true from decide_eq_true k]
   exact apply_repeal l A n c hl hn hw p hp h2 hv y hy hf i hi k y0 y1 (yg (by rw [k]; decide)) w hI
  ·rw [show decide (p.kind = 5) = false from decide_eq_false (by rw [k]; decide)]
   refine apply_revive l A n c hl hn hw p hp h2 hv y hy hf i hi k y0 y1 ?_ w hI
   cases h9 : y.gone with
   | true => rfl
   | false => exact absurd ⟨k, h9⟩ hs
  ·exact absurd k h7
end Go.Proofs.Ytgmimhgeigbpkaa
/- A region in which several variables are laid, in whatever order: their blocks lie apart, and the world behind is the same. No conditions. -/
namespace Go.Proofs.Ytgmimhgeigbpkaa
open Go Go.RowKit
section
variable {P : Program} {ops : Array Oper} {Q : Exit → Act → World → Prop} {md : Region.Mode} {S : World → Prop} {k : Nat}
def allReady (md : Region.Mode) (ops : Array Oper) : Nat → Array Bool → List Nat → Bool
 | 0, _, R => R.isEmpty
 | n + 1, listed, R => !R.isEmpty && (Region.ready md ops listed == R) && R.all fun i => allReady md ops n (listed.setIfInBounds i true) (R.erase i)
def setL (l : Array Bool) (i : Nat) : Array Bool := l.setIfInBounds i true
end
end Go.Proofs.Ytgmimhgeigbpkaa
/- A map keyed by pairs of whole numbers, laid in whatever order: own of package commute; the smaller functions of package commute. No conditions but those that each theorem states. -/
namespace Go.Proofs.Ytgmimhgeigbpkaa
open Go Go.RowKit Go.Sort Go.Maps
section
variable {P : Program} {ops : Array Oper} {Q : Exit → Act → World → Prop} {md : Region.Mode} {S : World → Prop} {k : Nat}
theorem inserts_aux (a : Act) (J : List Nat → World → Prop) (hJS : ∀ R w, J R w → S w)
  (hstep : ∀ (R : List Nat) (i : Nat) (w : World), i ∈ R → J R w → ∃ o, ops[i]? = some o ∧ ∀ K : Act → World → Prop, (∀ w', J (R.erase i) w' → K a w') → if Region.wanted o (yielded ops a.tmps) = true then Oper.wp P o a w K Q else K (a.put o.dst undef) w) :
  ∀ (n : Nat) (R : List Nat) (fuel : Nat) (listed : Array Bool) (w : World), allReady md ops n listed R = true → J R w →
   (∀ (s : List Nat) (w' : World), s.Perm R → J [] w' → wpAnyL P md ops Q S k fuel (s.foldl setL listed) a w') → wpAnyL P md ops Q S k (fuel + n) listed a w
 | 0, R, fuel, listed, w, hr, hJ, h => by
  obtain rfl : R = [] := by unfold allReady at hr; exact List.isEmpty_iff.1 hr
  exact h [] w (List.Perm.refl _) hJ
 | n + 1, R, fuel, listed, w, hr, hJ, h => by
  unfold allReady at hr
  simp only [Bool.and_eq_true, Bool.not_eq_true', List.all_eq_true, beq_iff_eq] at hr
  obtain ⟨⟨hne, hrd⟩, hall⟩ := hr
  refine ⟨fun h0 => ?_, fun i hi => ?_⟩
  ·rw [hrd] at h0
   rw [h0] at hne
   cases hne
  ·rw [hrd] at hi
   obtain ⟨o, ho, hop⟩ := hstep R i w hi hJ
   refine wpOp_step ho fun K' hK => hop K' fun w' hJ' => hK _ _ ⟨Or.inr (hJS _ _ hJ'), ?_⟩
   refine inserts_aux a J hJS hstep n (R.erase i) fuel _ w' (hall i hi) hJ' fun s w2 hs hJ2 => ?_
   have h1 := h (i :: s) w2 ((hs.cons i).trans (List.perm_cons_erase hi).symm) hJ2
   rw [List.foldl_cons] at h1
   exact h1
/-- Operations that yield nothing and may come up in whatever order. -/
theorem wpAnyL_inserts (a : Act) (J : List Nat → World → Prop) (R : List Nat) {fuel : Nat} {listed : Array Bool} {w : World} (hJS : ∀ R w, J R w → S w)
  (hstep : ∀ (R : List Nat) (i : Nat) (w : World), i ∈ R → J R w → ∃ o, ops[i]? = some o ∧ ∀ K : Act → World → Prop, (∀ w', J (R.erase i) w' → K a w') → if Region.wanted o (yielded ops a.tmps) = true then Oper.wp P o a w K Q else K (a.put o.dst undef) w)
  (hr : allReady md ops R.length listed R = true) (hJ : J R w) (h : ∀ w', J [] w' → wpAnyL P md ops Q S k fuel (R.foldl setL listed) a w') : wpAnyL P md ops Q S k (fuel + R.length) listed a w := by
 refine inserts_aux a J hJS hstep R.length R fuel listed w hr hJ fun s w' hs hJ' => ?_
 have e1 : s.foldl setL listed = R.foldl setL listed := hs.foldl_eq' (fun x _ y _ z => by
  unfold setL
  by_cases e : x = y
  ·rw [e]
  ·rw [Array.setIfInBounds_comm _ _ e]) _
 rw [e1]
 exact h w' hJ'
end
theorem lawPair : Keyed Try.prog 92 := Keyed.of_law (WideMaps.ArrKey.law (e := 3) (n := 2) ⟨Try.underlying92, by kernel_rfl, by kernel_rfl, by kernel_rfl⟩)
def pairV (a b : Int) : Value := .agg #[.int .i64 a, .int .i64 b]
/-- Pairs of kinds. -/
def Kinds2 (a b : Int) : Prop := 1 ≤ a ∧ a ≤ 7 ∧ 1 ≤ b ∧ b ≤ 7
noncomputable def pairK (a b : Int) : Lit := (keyOf Try.prog 92 (pairV a b)).getD (.bool false)
set_option maxRecDepth 100000 in
set_option maxHeartbeats 2000000 in
theorem pair_key {a b : Int} (h : Kinds2 a b) : keyOf Try.prog 92 (pairV a b) = some (pairK a b) := by
 have hs : (keyOf Try.prog 92 (pairV a b)).isSome = true := by
  obtain ⟨h1, h2, h3, h4⟩ := h
  have ha : a = 1 ∨ a = 2 ∨ a = 3 ∨ a = 4 ∨ a = 5 ∨ a = 6 ∨ a = 7 := by omega
  have hb : b = 1 ∨ b = 2 ∨ b = 3 ∨ b = 4 ∨ b = 5 ∨ b = 6 ∨ b = 7 := by omega
  rcases ha with rfl | rfl | rfl | rfl | rfl | rfl | rfl <;> rcases hb with rfl | rfl | rfl | rfl | rfl | rfl | rfl <;> decide +kernel
 unfold pairK
 cases hq : keyOf Try.prog 92 (pairV a b) with
 | none => rw [hq] at hs; cases hs
 | some l => rfl
set_option maxRecDepth 100000 in
theorem pair_inj {a b c d : Int} (h : Kinds2 a b) (h' : Kinds2 c d) (e : pairK a b = pairK c d) : a = c ∧ b = d := by
 have h1 := pair_key h
 rw [e] at h1
 have h2 := lawPair.inj h1 (pair_key h')
 unfold pairV at h2
 injection h2 with h2
 have h3 := congrArg Array.toList h2
 simp only [List.cons.injEq, Value.int.injEq, true_and, and_true] at h3
 exact h3
set_option maxRecDepth 100000 in
theorem elem_bool_inv {v : Value} {z : DataW Unit × List MemPlace} (h : plainElem Try.prog 4 v = some z) : ∃ x, v = .bool x ∧ z = (.lit (.bool x), []) := by
 unfold plainElem at h
 rw [Try.underlying4] at h
 split at h
 ·cases h; exact ⟨_, rfl, rfl⟩
 ·rename_i h1; cases h1
 ·rename_i h1; cases h1
 ·cases h
noncomputable def rBl : Value → Option (DataW Unit × List MemPlace) := plainElem Try.prog 4
/-- The pairs that were laid in. -/
noncomputable def pairsD : List (Int × Int) → DataW Unit
 | [] => .map []
 | x :: s => (pairsD s).put (pairK x.1 x.2) (.lit (.bool true))
theorem pairsD_isMap : ∀ s, IsMap (pairsD s)
 | [] => isMap_empty
 | _ :: s => (pairsD_isMap s).put _ _
set_option maxRecDepth 100000 in
theorem pairsD_at {a b : Int} (h : Kinds2 a b) : ∀ (s : List (Int × Int)), (∀ x ∈ s, Kinds2 x.1 x.2) → (pairsD s).atKey (pairK a b) (.lit (.bool false)) = .lit (.bool (s.contains (a, b)))
 | [], _ => rfl
 | x :: s, hs => by
  have hx := hs x (List.mem_cons_self ..)
  by_cases e : (a, b) = x
  ·subst e
   rw [pairsD, atKey_put_same (pairsD_isMap s) (lawPair.key (pair_key h))]
   simp
  ·rw [pairsD, atKey_put_other (fun e2 => e (by
    obtain ⟨h1, h2⟩ := pair_inj h hx e2
    rw [h1, h2])), pairsD_at h s (fun y hy => hs y (List.mem_cons_of_mem _ hy))]
   have h2 : ((a, b) == x) = false := beq_eq_false_iff_ne.2 e
   rw [List.contains_cons, h2, Bool.false_or]
set_option maxRecDepth 100000 in
theorem pair_run {W : World} {mb N : Nat} {s : List (Int × Int)} (h : W.ownsMap Try.prog 92 rBl mb N (pairsD s)) (hs : ∀ x ∈ s, Kinds2 x.1 x.2) {a b : Int} (hab : Kinds2 a b) :
  (Instr.lookup 90 (.map (some mb)) (.agg #[.int .i64 a, .int .i64 b]) false).run Try.prog W = .ok (.bool (s.contains (a, b))) W := by
 obtain ⟨v, ps, hrun, hv⟩ := h.lookup lawPair Try.underlying90 (z := .bool false) (by kernel_rfl) (plainElem_bool Try.underlying4 false) (pair_key hab)
 rw [pairsD_at hab s hs] at hv
 obtain ⟨x, rfl, hx⟩ := elem_bool_inv hv
 injection hx with hx _
 injection hx with hx
 injection hx with hx
 rw [hx]
 exact hrun
/-- The pairs of own. -/
def ownL : List (Int × Int) := [(2, 3), (2, 4), (3, 4), (3, 7), (4, 7)]
theorem own_spec {a b : Int} {s : List (Int × Int)} (hs : ∀ x, x ∈ s ↔ x ∈ ownL) (ha : a ≠ 2) : s.contains (a, b) = Dg.ownP a b := by
 rw [Bool.eq_iff_iff, List.contains_iff_mem, hs]
 unfold Dg.ownP ownL
 rw [decide_eq_true_iff]
 simp only [List.mem_cons, List.not_mem_nil, or_false, Prod.mk.injEq]
 constructor
 ·rintro (⟨h, _⟩ | ⟨h, _⟩ | h | h | h)
  ·exact absurd h ha
  ·exact absurd h ha
  ·exact Or.inl h
  ·exact Or.inr (Or.inl h)
  ·exact Or.inr (Or.inr h)
 ·rintro (h | h | h)
  ·exact Or.inr (Or.inr (Or.inl h))
  ·exact Or.inr (Or.inr (Or.inr (Or.inl h)))
  ·exact Or.inr (Or.inr (Or.inr (Or.inr h)))
/-- The keys of the operations that lay in. -/
def ownK (i : Nat) : Int × Int := if i = 2 then (2, 3) else if i = 4 then (2, 4) else if i = 6 then (3, 4) else if i = 8 then (3, 7) else (4, 7)
def OwnJ (w : World) (R : List Nat) (W : World) : Prop := (∀ i ∈ R, i ∈ [2, 4, 6, 8, 10]) ∧ R.Nodup ∧ ∃ s : List (Int × Int), (∀ x, x ∈ s ↔ ∃ i ∈ [2, 4, 6, 8, 10], i ∉ R ∧ ownK i = x) ∧ W.ownsMap Try.prog 92 rBl w.heap.size (5 - R.length) (pairsD s) ∧ Below w.heap.size w W
theorem ownK_two (i : Nat) : Kinds2 (ownK i).1 (ownK i).2 := by
 unfold ownK Kinds2
 split
 ·decide
 split
 ·decide
 split
 ·decide
 split
 ·decide
 ·decide
set_option maxRecDepth 100000 in
theorem OwnJ.next {w : World} {R : List Nat} {W : World} (h : OwnJ w R W) {i : Nat} (hi : i ∈ R) : ∃ W', (Instr.mapUpdate 90 (.map (some w.heap.size)) (.agg #[.int .i64 (ownK i).1, .int .i64 (ownK i).2]) (.bool true)).run Try.prog W = .ok () W' ∧ OwnJ w (R.erase i) W' := by
 obtain ⟨h1, hn, s, h2, h3, h4⟩ := h
 have hl : R.length ≤ 5 := Dg.nodup_len R [2, 4, 6, 8, 10] hn h1
 have h0 : 0 < R.length := List.length_pos_of_mem hi
 obtain ⟨W', hrun, r1, r2⟩ := h3.update lawPair Try.underlying90 (by unfold maxLen; omega) (pair_key (ownK_two i)) (plainElem_bool Try.underlying4 true)
 refine ⟨W', hrun, fun j hj => h1 j (List.mem_of_mem_erase hj), hn.erase i, ownK i :: s, fun x => ?_, ?_, ?_⟩
 ·rw [List.mem_cons, h2]
  constructor
  ·rintro (rfl | ⟨j, hj, hjR, rfl⟩)
   ·exact ⟨i, h1 i hi, fun hc => (List.Nodup.mem_erase_iff hn).1 hc |>.1 rfl, rfl⟩
   ·exact ⟨j, hj, fun hc => hjR (List.mem_of_mem_erase hc), rfl⟩
  ·rintro ⟨j, hj, hjR, rfl⟩
   by_cases e : j = i
   ·subst e; exact Or.inl rfl
   ·exact Or.inr ⟨j, hj, fun hc => hjR ((List.Nodup.mem_erase_iff hn).2 ⟨e, hc⟩), rfl⟩
 ·rw [List.length_erase_of_mem hi, show 5 - (R.length - 1) = 5 - R.length + 1 by omega]
  exact r1
 ·exact h4.grown r2 h4.size fun k hk => by injection hk with hk; omega
end Go.Proofs.Ytgmimhgeigbpkaa
/- own, places, names, formed of package commute. No conditions but those that each theorem states. -/
namespace Go.Proofs.Ytgmimhgeigbpkaa
open Go Go.RowKit Go.Sort Go.Maps
theorem wp_insert {P : Program} {w w' : World} {o : Oper} {a : Act} {K : Act → World → Prop} {Q : Exit → Act → World → Prop} (t : TypeId) (m x v : Operand) (ho : o.op = .insert t m x v) (mv xv vv : Value) (hm : a.eval m = mv) (hx : a.eval x = xv) (hv : a.eval v = vv)
  (hrun : (Instr.mapUpdate t mv xv vv).run P w = .ok () w') (h : K (a.put o.dst undef) w') : o.wp P a w K Q := by
 unfold Oper.wp
 simp [execOp, ho, hm, hx, hv, hrun, Result.andThen]
 exact h
set_option maxRecDepth 100000 in
set_option maxHeartbeats 8000000 in
theorem own_of (w : World) :
  Calls Try.prog 51 #[] w fun e w' => (∃ s : List (Int × Int), (∀ x, x ∈ s ↔ x ∈ ownL) ∧ e = .returned (.map (some w.heap.size)) ∧ w'.ownsMap Try.prog 92 rBl w.heap.size 5 (pairsD s)) ∧ Below w.heap.size w w' := by
 have hmx : Try.prog.follows .mixedOrders = true := by kernel_rfl
 have hmm := @run_makeMap Try.prog
 go_enter Try.func51, Try.ntmps51
 go_upto_region 1 with (fail)
 refine wp_region_noPanic ?_
 refine wp_region_L (fun _ => True) 13 hmx ?_
 have hT : True := trivial
 refine tkY 1 15 ?_ rfl ?_ hT ?_
 rotate_left
 ·intro wS hS; go_simp; (try with_reducible rfl)
 simp only [Act.put, pu1, pu2, pu3, pu4, pu5, pu6]
 refine tkY 3 15 ?_ rfl ?_ hT ?_
 rotate_left
 ·intro wS hS; go_simp; (try with_reducible rfl)
 simp only [Act.put, pu1, pu2, pu3, pu4, pu5, pu6]
 refine tkY 5 15 ?_ rfl ?_ hT ?_
 rotate_left
 ·intro wS hS; go_simp; (try with_reducible rfl)
 simp only [Act.put, pu1, pu2, pu3, pu4, pu5, pu6]
 refine tkY 7 15 ?_ rfl ?_ hT ?_
 rotate_left
 ·intro wS hS; go_simp; (try with_reducible rfl)
 simp only [Act.put, pu1, pu2, pu3, pu4, pu5, pu6]
 refine tkY 9 15 ?_ rfl ?_ hT ?_
 rotate_left
 ·intro wS hS; go_simp; (try with_reducible rfl)
 simp only [Act.put, pu1, pu2, pu3, pu4, pu5, pu6]
 refine onY 0 (by rfl) fun K hK => ?_
 go_simp
 refine hK.out _ _ (Or.inr trivial) ?_
 clear hK K
 try simp only [Act.put, pu1, pu2, pu3, pu4, pu5, pu6]
 have hd : w.drew.heap.size = w.heap.size := rfl
 have hJ : OwnJ w [2, 4, 6, 8, 10] (w.drew.alloc (.map #[] 0)) := ⟨fun i hi => hi, by decide, [], fun x => ⟨fun h => (by cases h), fun ⟨i, hi, hn, _⟩ => absurd hi hn⟩, World.ownsMap_made w.drew Try.prog 92 rBl, ((Below.refl _ w).drew).alloc (Nat.le_refl _) _⟩
 refine wpAnyL_inserts (fuel := 2) _ (OwnJ w) [2, 4, 6, 8, 10] (fun _ _ _ => trivial) ?_ (by decide +kernel) hJ ?_
 ·intro R i W hi hR
  obtain ⟨W', hrun, hn⟩ := hR.next hi
  have h5 := hR.1 i hi
  simp only [List.mem_cons, List.not_mem_nil, or_false] at h5
  rcases h5 with rfl | rfl | rfl | rfl | rfl
  ·exact ⟨_, rfl, fun K hK => by rw [if_pos (by rfl)]; exact wp_insert _ _ _ _ rfl _ _ _ rfl rfl rfl hrun (hK W' hn)⟩
  ·exact ⟨_, rfl, fun K hK => by rw [if_pos (by rfl)]; exact wp_insert _ _ _ _ rfl _ _ _ rfl rfl rfl hrun (hK W' hn)⟩
  ·exact ⟨_, rfl, fun K hK => by rw [if_pos (by rfl)]; exact wp_insert _ _ _ _ rfl _ _ _ rfl rfl rfl hrun (hK W' hn)⟩
  ·exact ⟨_, rfl, fun K hK => by rw [if_pos (by rfl)]; exact wp_insert _ _ _ _ rfl _ _ _ rfl rfl rfl hrun (hK W' hn)⟩
  ·exact ⟨_, rfl, fun K hK => by rw [if_pos (by rfl)]; exact wp_insert _ _ _ _ rfl _ _ _ rfl rfl rfl hrun (hK W' hn)⟩
 intro W hW
 simp only [setL, List.foldl_cons, List.foldl_nil]
 refine tkY 11 15 ?_ rfl ?_ hT ?_
 rotate_left
 ·intro wS hS; go_simp; (try with_reducible rfl)
 simp only [Act.put, pu1, pu2, pu3, pu4, pu5, pu6]
 refine tkY 12 15 ?_ rfl ?_ hT ?_
 rotate_left
 ·intro wS hS; go_simp; (try with_reducible rfl)
 simp only [Act.put, pu1, pu2, pu3, pu4, pu5, pu6]
 refine dnY ?_
 obtain ⟨_, _, s, h1, h2, h3⟩ := hW
 go_wp2
 go_ret
 refine ⟨⟨s, fun x => ?_, rfl, h2⟩, h3⟩
 rw [h1]
 constructor
 ·rintro ⟨i, hi, _, rfl⟩
  simp only [List.mem_cons, List.not_mem_nil, or_false] at hi
  rcases hi with rfl | rfl | rfl | rfl | rfl <;> decide
 ·intro hx
  unfold ownL at hx
  simp only [List.mem_cons, List.not_mem_nil, or_false] at hx
  rcases hx with rfl | rfl | rfl | rfl | rfl
  ·exact ⟨2, by decide, by simp, rfl⟩
  ·exact ⟨4, by decide, by simp, rfl⟩
  ·exact ⟨6, by decide, by simp, rfl⟩
  ·exact ⟨8, by decide, by simp, rfl⟩
  ·exact ⟨10, by decide, by simp, rfl⟩
theorem places_of (k : Int) (w : World) : Calls Try.prog 52 #[.int .i64 k] w fun e w' => e = .returned (.bool (k == 1 || k == 4)) ∧ w' = w := by
 go_enter Try.func52, Try.ntmps52
 cases h1 : (k == 1) with
 | true =>
  go_wp2
  go_ret
  exact ⟨rfl, rfl⟩
 | false =>
  go_wp2
  go_ret
  exact ⟨rfl, rfl⟩
set_option maxRecDepth 100000 in
set_option maxHeartbeats 8000000 in
theorem names_of (p : Dg.Pt) (d : ByteArray) (R : Bool) (hR : (decide (p.parent = d) || decide (p.after = d)) = R) (w : World) :
  Calls Try.prog 53 #[.agg #[.int .i64 p.1, .string p.2, .string p.3, .string p.4, .string p.5, .int .i64 p.6.1, .string p.6.2, .string p.6.3, .string p.6.4, .string p.6.5, .string p.6.6, .bool p.6.7, .int .i64 p.7, .string p.8, .string p.9], .string d] w fun e w' => e = .returned (.bool R) ∧ Below w.heap.size w w' := by
 have r1 := heap_alloc_new w (.cells #[.int .i64 p.1, .string p.2, .string p.3, .string p.4, .string p.5, .int .i64 p.6.1, .string p.6.2, .string p.6.3, .string p.6.4, .string p.6.5, .string p.6.6, .bool p.6.7, .int .i64 p.7, .string p.8, .string p.9] 39)
 have hb1 := Below.news (Below.refl w.heap.size w) (.cells #[.int .i64 p.1, .string p.2, .string p.3, .string p.4, .string p.5, .int .i64 p.6.1, .string p.6.2, .string p.6.3, .string p.6.4, .string p.6.5, .string p.6.6, .bool p.6.7, .int .i64 p.7, .string p.8, .string p.9] 39)
 have HR := hide (show Dg.inB [p.parent, p.after] d = R by
  rw [← hR]
  show (decide (p.parent = d) || (decide (p.after = d) || false)) = _
  rw [Bool.or_false])
 clear hR
 go_enter Try.func53, Try.ntmps53
 go_upto_region 1 with (fail)
 generalize w.alloc (.cells #[.int .i64 p.1, .string p.2, .string p.3, .string p.4, .string p.5, .int .i64 p.6.1, .string p.6.2, .string p.6.3, .string p.6.4, .string p.6.5, .string p.6.6, .bool p.6.7, .int .i64 p.7, .string p.8, .string p.9] 39) = w1 at *
 have hcs := jC15 r1
 have c2 := hcs.2.2.1; have c3 := hcs.2.2.2.1
 clear hcs r1
 go_wp2_with fail
 have hS : Strs (w1.alloc (.cells #[.string p.parent, .string p.after] 9)) (w1.alloc (.cells #[.string p.parent, .string p.after] 9)).heap.size (some ⟨w1.heap.size, 0, none⟩) [p.parent, p.after] := ⟨fun _ => ⟨w1.heap.size, 0, rfl, by simp, fun j s hj => by
  have rr := heap_alloc_new w1 (.cells #[.string p.parent, .string p.after] 9)
  have q0 := cell_of_row _ _ 0 _ _ _ rr
  have q1 := cell_of_row _ _ 1 _ _ _ rr
  match j, hj with
  | 0, hj => cases hj; exact q0
  | 1, hj => cases hj; exact q1
  | j + 2, hj => simp at hj⟩⟩
 have hb2 := bnext hb1 (Below.news (Below.refl w1.heap.size w1) (.cells #[.string p.parent, .string p.after] 9))
 generalize w1.alloc (.cells #[.string p.parent, .string p.after] 9) = w2 at *
 refine (scontains_s _ 2 2 [p.parent, p.after] d _ rfl (by decide) hS R HR.out).mono ?_
 rintro e w3 ⟨rfl, rfl⟩
 go_wp2
 go_ret
 exact ⟨rfl, hb2⟩
theorem Dg.applyP_empty (p : Dg.Pt) (hf : Dg.formedP p = true) : (Dg.applyP [] p).2 = 0 ∨ (Dg.applyP [] p).2 = 11 ∨ (Dg.applyP [] p).2 = 14 := by
 have hv : Dg.validC [] = true := by decide
 have hx (d : ByteArray) : Dg.idxI [] d = none := rfl
 unfold Dg.applyP
 rw [if_neg (fun h => by
  rcases h with h | h
  ·rw [hv] at h; cases h
  ·rw [hf] at h; cases h)]
 by_cases h1 : p.kind = 1
 ·rw [if_pos h1]
  unfold Dg.insertP
  rw [hx, if_neg (by decide)]
  by_cases h2 : Dg.existsP [] p = false
  ·rw [if_pos h2]; exact Or.inr (Or.inr rfl)
  ·rw [if_neg h2, if_neg (by decide)]; exact Or.inl rfl
 ·rw [if_neg h1, hx]
  exact Or.inr (Or.inl rfl)
theorem Dg.applyP_unf (p : Dg.Pt) (hf : Dg.formedP p = false) : (Dg.applyP [] p).2 = 1 := by
 unfold Dg.applyP
 rw [if_pos (Or.inr hf)]
theorem Dg.formed_empty (p : Dg.Pt) : ((Dg.applyP [] p).2 != 1) = Dg.formedP p := by
 cases hf : Dg.formedP p with
 | true => rcases Dg.applyP_empty p hf with h | h | h <;> rw [h] <;> rfl
 | false => rw [Dg.applyP_unf p hf]; rfl
theorem Dg.errs_small (p : Dg.Pt) : -9223372036854775808 ≤ (Dg.applyP [] p).2 ∧ (Dg.applyP [] p).2 ≤ 9223372036854775807 := by
 cases hf : Dg.formedP p with
 | true => rcases Dg.applyP_empty p hf with h | h | h <;> rw [h] <;> decide
 | false => rw [Dg.applyP_unf p hf]; decide
set_option maxRecDepth 100000 in
set_option maxHeartbeats 8000000 in
attribute [-go_sem] Instr.storeAt in
theorem cformed_of (p : Dg.Pt) (hp : PtW p) (h2 : p.kind ≠ 2) (R : Bool) (hR : Dg.formedP p = R) (w : World) :
  Calls Try.prog 50 #[.agg #[.int .i64 p.1, .string p.2, .string p.3, .string p.4, .string p.5, .int .i64 p.6.1, .string p.6.2, .string p.6.3, .string p.6.4, .string p.6.5, .string p.6.6, .bool p.6.7, .int .i64 p.7, .string p.8, .string p.9]] w fun e w' => e = .returned (.bool R) ∧ Below w.heap.size w w' := by
 have r1 := heap_alloc_new w (.cells #[.int .i64 p.1, .string p.2, .string p.3, .string p.4, .string p.5, .int .i64 p.6.1, .string p.6.2, .string p.6.3, .string p.6.4, .string p.6.5, .string p.6.6, .bool p.6.7, .int .i64 p.7, .string p.8, .string p.9] 39)
 have hb1 := Below.news (Below.refl w.heap.size w) (.cells #[.int .i64 p.1, .string p.2, .string p.3, .string p.4, .string p.5, .int .i64 p.6.1, .string p.6.2, .string p.6.3, .string p.6.4, .string p.6.5, .string p.6.6, .bool p.6.7, .int .i64 p.7, .string p.8, .string p.9] 39)
 have hRI := hide (range_of r1 0 [.int .i64 p.1, .string p.2, .string p.3, .string p.4, .string p.5, .int .i64 p.6.1, .string p.6.2, .string p.6.3, .string p.6.4, .string p.6.5, .string p.6.6, .bool p.6.7, .int .i64 p.7, .string p.8, .string p.9] rfl)
 have hAp (X : World) := apply_of [] none 0 0 rfl (by decide) (Nat.le_refl _) (fun x hx => absurd hx (by simp)) p hp h2 X ⟨fun h0 => by simp at h0⟩
 have HAP := hide hAp
 obtain ⟨K, hK⟩ : ∃ K, (Dg.applyP [] p).2 = K := ⟨_, rfl⟩
 have HK := hide (show (K != 1) = R by rw [← hK, ← hR]; exact Dg.formed_empty p)
 have HK2 := hide hK
 have hK0 := hide hK
 clear hAp hK hR hp h2
 go_enter Try.func50, Try.ntmps50
 go_upto_region 1 with (fail)
 generalize w.alloc (.cells #[.int .i64 p.1, .string p.2, .string p.3, .string p.4, .string p.5, .int .i64 p.6.1, .string p.6.2, .string p.6.3, .string p.6.4, .string p.6.5, .string p.6.6, .bool p.6.7, .int .i64 p.7, .string p.8, .string p.9] 39) = w1 at *
 go_wp2_with (with_reducible refine wpList_load_mid rfl 39 (.tmp 1) rfl w.heap.size 0 rfl _ _ hRI.out Try.underlying39 rfl (by kernel_rfl) ?_)
 refine (HAP.out w1).mono ?_
 rintro e w2 ⟨v', rfl, hO, hb2⟩
 have hb3 := bnext hb1 hb2
 rw [HK2.out]
 obtain ⟨A, c, rfl, _, _⟩ := hO.row
 generalize (Dg.applyP [] p).1.length = m at *
 clear HAP HK2 hb2 hRI r1 hO
 have hst := store_new (ty := 24) (T := 24) w2 #[.slice none 0 0] #[.slice A m c] (by kernel_rfl) rfl (by simp [Value.oneCell'])
 have hb4 := bnext hb3 (Below.news (Below.refl w2.heap.size w2) (.cells #[.slice A m c] 24))
 have hbe := HK.out
 have hk0 : -9223372036854775808 ≤ K ∧ K ≤ 9223372036854775807 := by rw [← hK0.out]; exact Dg.errs_small p
 obtain ⟨hk0, hk1⟩ := hk0
 cases R with
 | true =>
  go_wp2
  go_ret
  exact ⟨rfl, hb4⟩
 | false =>
  go_wp2
  go_ret
  exact ⟨rfl, hb4⟩
end Go.Proofs.Ytgmimhgeigbpkaa

