/- Walks and laws of this seat, several texts in one. No conditions but those that each theorem states. -/
import Derived.Test.YtgmimhgeigbpkaaDA3
/- Apply of package patch, behind its change. No conditions but those that each theorem states. -/
namespace Go.Proofs.Ytgmimhgeigbpkaa
open Go Go.RowKit Go.Sort Go.Maps
theorem infoCh17 : (Try.prog.info? 68).map (·.size) = some 17 := by kernel_rfl
theorem one_change (A : Option Addr) (n c : Nat) (p : Dg.Pt) (K0 : Int) : ∀ u ∈ (Value.agg #[.slice A n c, .int .i64 p.1, .string p.2, .string p.3, .string p.4, .string p.5, .int .i64 p.6.1, .string p.6.2, .string p.6.3, .string p.6.4, .string p.6.5, .string p.6.6, .bool p.6.7, .int .i64 p.7, .string p.8, .string p.9, .int .i64 K0]).cells.toList, u.oneCell' = true := fun u hu => by
 have hu' : u ∈ [Value.slice A n c] ++ ((ptC p).toList ++ [Value.int .i64 K0]) := hu
 rcases List.mem_append.1 hu' with h | h
 ·rw [List.mem_singleton.1 h]; rfl
 ·rcases List.mem_append.1 h with h | h
  ·exact ptL.one p u h
  ·rw [List.mem_singleton.1 h]; rfl
set_option maxRecDepth 100000 in
set_option maxHeartbeats 8000000 in
attribute [-go_sem] Instr.storeAt in
theorem apply_ins (l : List Dg.It) (A : Option Addr) (n c : Nat) (hl : l.length = n) (hn : n ≤ 1048576) (hw : ∀ x ∈ l, ItW x) (p : Dg.Pt) (hp : PtW p) (h2 : p.kind ≠ 2) (hv : Dg.validC l = true) (hk : p.kind = 1) (hf : Dg.formedP p = true)  (w : World) (hI : Its w w.heap.size A l) :
  Calls Try.prog 11 #[.agg #[.slice A n c], .agg #[.int .i64 p.1, .string p.2, .string p.3, .string p.4, .string p.5, .int .i64 p.6.1, .string p.6.2, .string p.6.3, .string p.6.4, .string p.6.5, .string p.6.6, .bool p.6.7, .int .i64 p.7, .string p.8, .string p.9]] w (ApR (Dg.insertP l p) w) := by
 obtain ⟨r1, r2, r3, hb1, hs⟩ := iAlloc3 w (.cells #[.slice A n c] 24) (.cells #[.int .i64 p.1, .string p.2, .string p.3, .string p.4, .string p.5, .int .i64 p.6.1, .string p.6.2, .string p.6.3, .string p.6.4, .string p.6.5, .string p.6.6, .bool p.6.7, .int .i64 p.7, .string p.8, .string p.9] 39) (.cells #[.slice none 0 0] 24)
 have hS1 : ApS w.heap.size A n c l p (((w.alloc (.cells #[.slice A n c] 24)).alloc (.cells #[.int .i64 p.1, .string p.2, .string p.3, .string p.4, .string p.5, .int .i64 p.6.1, .string p.6.2, .string p.6.3, .string p.6.4, .string p.6.5, .string p.6.6, .bool p.6.7, .int .i64 p.7, .string p.8, .string p.9] 39)).alloc (.cells #[.slice none 0 0] 24)) := ⟨r1, r2, r3, hI.keep hb1⟩
 have hmx : Try.prog.follows .mixedOrders = true := by kernel_rfl
 have HS := hide hs; have HL := hide hl; have HW := hide hw; have HP := hide hp; have H2 := hide h2; have HV := hide hv
 clear r1 r2 r3 hs hI hl hw hp h2 hv
 have HF := hide hf
 clear hf
 have HK := hide hk
 have hk1 : (p.kind != 1) = false := by rw [hk]; rfl
 clear hk
 have c1 := iCells0 hS1.r1
 go_enter Try.func11, Try.ntmps11
 go_wp2_with fail
 generalize ((w.alloc (.cells #[.slice A n c] 24)).alloc (.cells #[.int .i64 p.1, .string p.2, .string p.3, .string p.4, .string p.5, .int .i64 p.6.1, .string p.6.2, .string p.6.3, .string p.6.4, .string p.6.5, .string p.6.6, .bool p.6.7, .int .i64 p.7, .string p.8, .string p.9] 39)).alloc (.cells #[.slice none 0 0] 24) = w1 at *
 refine (Code.valid_of l A n c HL.out HW.out hn w1 hS1.its true HV.out).mono ?_
 rintro e w2 ⟨rfl, hbq⟩
 have hS2 := hS1.below hbq
 have hb2 := bnext hb1 hbq
 have hsz : w.heap.size + 3 ≤ w2.heap.size := by have := hbq.size; have := HS.out; omega
 clear hbq hS1 hb1 c1 HS
 have hL2 := hide (range_of hS2.r2 0 [.int .i64 p.1, .string p.2, .string p.3, .string p.4, .string p.5, .int .i64 p.6.1, .string p.6.2, .string p.6.3, .string p.6.4, .string p.6.5, .string p.6.6, .bool p.6.7, .int .i64 p.7, .string p.8, .string p.9] rfl)
 go_wp2_with (refine wpList_load_midW 39 (.tmp 3) rfl (by rfl) (w.heap.size + 1) 0 rfl _ _ hL2.out Try.underlying39 rfl (by kernel_rfl) ?_)
 clear hL2
 refine (formed_of p HP.out H2.out true HF.out w2).mono ?_
 rintro e w3 ⟨rfl, hbq⟩
 have hS3 := hS2.below hbq
 have hb3 := bnext hb2 hbq
 have hsz3 : w.heap.size + 3 ≤ w3.heap.size := by have := hbq.size; omega
 clear hbq hS2 hb2 hsz
 obtain ⟨K0, hK0⟩ : ∃ K, findX l p.id = K := ⟨_, rfl⟩
 have HK0 := hide hK0
 clear hK0
 have HSK := hide (fun X (hX : Below w3.heap.size w3 X) => hS3.below hX)
 go_upto_region 3 with (fail)
 go_cut [6] from 18 to 24 (fun v6 wx => ∃ b6 : Nat, v6 = .pointer (some ⟨b6, 0, none⟩) ∧ w3.heap.size ≤ b6 ∧ wx.heap[b6]? = some (.cells #[.slice A n c, .int .i64 p.1, .string p.2, .string p.3, .string p.4, .string p.5, .int .i64 p.6.1, .string p.6.2, .string p.6.3, .string p.6.4, .string p.6.5, .string p.6.6, .bool p.6.7, .int .i64 p.7, .string p.8, .string p.9, .int .i64 K0] 68 (0, 0)) ∧ Below w3.heap.size w3 wx)
 case first =>
  refine wp_region_noPanic ?_
  refine wp_region_L (Below w3.heap.size w3) 9 hmx ?_
  have hH0 : (Below w3.heap.size w3) w3.drew := (Below.refl w3.heap.size w3).drew
  generalize w3.drew = u0 at *
  refine tkY 0 11 ?_ rfl ?_ hH0 ?_
  rotate_left
  ·intro wS hS; have c1 := iCells0 (HSK.out _ hS).r1; go_simp; (try with_reducible rfl)
  simp only [Act.put, pu1, pu2, pu3, pu4, pu5, pu6]
  refine tkV 1 11 (.agg #[.int .i64 p.1, .string p.2, .string p.3, .string p.4, .string p.5, .int .i64 p.6.1, .string p.6.2, .string p.6.3, .string p.6.4, .string p.6.5, .string p.6.6, .bool p.6.7, .int .i64 p.7, .string p.8, .string p.9]) rfl (by exact yieldsIf_load_mid (by rfl) 39 (.tmp 3) rfl (w.heap.size + 1) 0 rfl [.int .i64 p.1, .string p.2, .string p.3, .string p.4, .string p.5, .int .i64 p.6.1, .string p.6.2, .string p.6.3, .string p.6.4, .string p.6.5, .string p.6.6, .bool p.6.7, .int .i64 p.7, .string p.8, .string p.9] _ (fun X hX => range_of (HSK.out X hX).r2 0 [.int .i64 p.1, .string p.2, .string p.3, .string p.4, .string p.5, .int .i64 p.6.1, .string p.6.2, .string p.6.3, .string p.6.4, .string p.6.5, .string p.6.6, .bool p.6.7, .int .i64 p.7, .string p.8, .string p.9] rfl) Try.underlying39 rfl (by kernel_rfl)) hH0 ?_
  simp only [Act.put, pu1, pu2, pu3, pu4, pu5, pu6]
  refine tkY 2 11 ?_ rfl ?_ hH0 ?_
  rotate_left
  ·intro wS hS; have c1 := iCells0 (HSK.out _ hS).r1; go_simp; (try with_reducible rfl)
  simp only [Act.put, pu1, pu2, pu3, pu4, pu5, pu6]
  refine tkY 3 11 ?_ rfl ?_ hH0 ?_
  rotate_left
  ·intro wS hS; go_simp; (try with_reducible rfl)
  simp only [Act.put, pu1, pu2, pu3, pu4, pu5, pu6]
  refine tkY 4 11 ?_ rfl ?_ hH0 ?_
  rotate_left
  ·intro wS hS; have k1 := (jC15 (HSK.out _ hS).r2).2.1; go_simp; (try with_reducible rfl)
  simp only [Act.put, pu1, pu2, pu3, pu4, pu5, pu6]
  refine wpAnyL_duo (i := 5) (j := 7) (by decide +kernel) (by rfl) (by rfl) (fun K hK => ?_) (fun K hK => ?_)
  ·rw [if_pos (by rfl)]
   go_simp
   refine (Code.find_of l A n c HL.out hn p.id u0 (HSK.out _ hH0).its K0 HK0.out).mono ?_
   rintro e u1 ⟨rfl, hx1⟩
   have hH1 := hH0.trans (hx1.mono hH0.size)
   refine hK.out _ _ (Or.inr hH1) ?_
   clear hK K hx1
   try simp only [Act.put, pu1, pu2, pu3, pu4, pu5, pu6]
   refine tkY 6 11 ?_ rfl ?_ hH1 ?_
   rotate_left
   ·intro wS hS; go_simp; (try with_reducible rfl)
   simp only [Act.put, pu1, pu2, pu3, pu4, pu5, pu6]
   refine onY 7 (by rfl) fun K hK => ?_
   go_simp
   have hx2 := Below.news (Below.refl u1.heap.size u1) (.cells #[.slice none 0 0, .int .i64 0, .string ⟨#[]⟩, .string ⟨#[]⟩, .string ⟨#[]⟩, .string ⟨#[]⟩, .int .i64 0, .string ⟨#[]⟩, .string ⟨#[]⟩, .string ⟨#[]⟩, .string ⟨#[]⟩, .string ⟨#[]⟩, .bool false, .int .i64 0, .string ⟨#[]⟩, .string ⟨#[]⟩, .int .i64 0] 68)
   have hr2 := heap_alloc_new u1 (.cells #[.slice none 0 0, .int .i64 0, .string ⟨#[]⟩, .string ⟨#[]⟩, .string ⟨#[]⟩, .string ⟨#[]⟩, .int .i64 0, .string ⟨#[]⟩, .string ⟨#[]⟩, .string ⟨#[]⟩, .string ⟨#[]⟩, .string ⟨#[]⟩, .bool false, .int .i64 0, .string ⟨#[]⟩, .string ⟨#[]⟩, .int .i64 0] 68)
   have hg2 : w3.heap.size ≤ u1.heap.size := hH1.size
   have hH2 := hH1.trans (hx2.mono hH1.size)
   refine hK.out _ _ (Or.inr hH2) ?_
   clear hK K hx2
   try simp only [Act.put, pu1, pu2, pu3, pu4, pu5, pu6]
   generalize u1.alloc (.cells #[.slice none 0 0, .int .i64 0, .string ⟨#[]⟩, .string ⟨#[]⟩, .string ⟨#[]⟩, .string ⟨#[]⟩, .int .i64 0, .string ⟨#[]⟩, .string ⟨#[]⟩, .string ⟨#[]⟩, .string ⟨#[]⟩, .string ⟨#[]⟩, .bool false, .int .i64 0, .string ⟨#[]⟩, .string ⟨#[]⟩, .int .i64 0] 68) = u2 at *
   generalize u1.heap.size = g2 at *
   refine onY 8 (by rfl) fun K hK => ?_
   have hst := store_part (ty := 68) u2 g2 0 #[.slice none 0 0, .int .i64 0, .string ⟨#[]⟩, .string ⟨#[]⟩, .string ⟨#[]⟩, .string ⟨#[]⟩, .int .i64 0, .string ⟨#[]⟩, .string ⟨#[]⟩, .string ⟨#[]⟩, .string ⟨#[]⟩, .string ⟨#[]⟩, .bool false, .int .i64 0, .string ⟨#[]⟩, .string ⟨#[]⟩, .int .i64 0] (.agg #[.slice A n c, .int .i64 p.1, .string p.2, .string p.3, .string p.4, .string p.5, .int .i64 p.6.1, .string p.6.2, .string p.6.3, .string p.6.4, .string p.6.5, .string p.6.6, .bool p.6.7, .int .i64 p.7, .string p.8, .string p.9, .int .i64 K0]) #[.slice A n c, .int .i64 p.1, .string p.2, .string p.3, .string p.4, .string p.5, .int .i64 p.6.1, .string p.6.2, .string p.6.3, .string p.6.4, .string p.6.5, .string p.6.6, .bool p.6.7, .int .i64 p.7, .string p.8, .string p.9, .int .i64 K0] hr2 infoCh17 (Nat.le_refl _) (one_change A n c p K0) rfl
   go_simp
   clear hst
   have hr3 := setRow_heap u2 g2 _ #[.slice A n c, .int .i64 p.1, .string p.2, .string p.3, .string p.4, .string p.5, .int .i64 p.6.1, .string p.6.2, .string p.6.3, .string p.6.4, .string p.6.5, .string p.6.6, .bool p.6.7, .int .i64 p.7, .string p.8, .string p.9, .int .i64 K0] _ _ hr2
   have hH3 := below_setRow hH2 hg2 (g := g2) #[.slice A n c, .int .i64 p.1, .string p.2, .string p.3, .string p.4, .string p.5, .int .i64 p.6.1, .string p.6.2, .string p.6.3, .string p.6.4, .string p.6.5, .string p.6.6, .bool p.6.7, .int .i64 p.7, .string p.8, .string p.9, .int .i64 K0]
   refine hK.out _ _ (Or.inr hH3) ?_
   clear hK K
   try simp only [Act.put, pu1, pu2, pu3, pu4, pu5, pu6]
   refine dnY ?_
   go_wp2_with fail
   go_meet
   case rel => exact ⟨g2, rfl, hg2, hr3, hH3⟩
  ·rw [if_pos (by rfl)]
   go_simp
   have hx2 := Below.news (Below.refl u0.heap.size u0) (.cells #[.slice none 0 0, .int .i64 0, .string ⟨#[]⟩, .string ⟨#[]⟩, .string ⟨#[]⟩, .string ⟨#[]⟩, .int .i64 0, .string ⟨#[]⟩, .string ⟨#[]⟩, .string ⟨#[]⟩, .string ⟨#[]⟩, .string ⟨#[]⟩, .bool false, .int .i64 0, .string ⟨#[]⟩, .string ⟨#[]⟩, .int .i64 0] 68)
   have hr1 := heap_alloc_new u0 (.cells #[.slice none 0 0, .int .i64 0, .string ⟨#[]⟩, .string ⟨#[]⟩, .string ⟨#[]⟩, .string ⟨#[]⟩, .int .i64 0, .string ⟨#[]⟩, .string ⟨#[]⟩, .string ⟨#[]⟩, .string ⟨#[]⟩, .string ⟨#[]⟩, .bool false, .int .i64 0, .string ⟨#[]⟩, .string ⟨#[]⟩, .int .i64 0] 68)
   have hg2 : w3.heap.size ≤ u0.heap.size := hH0.size
   have hH1 := hH0.trans (hx2.mono hH0.size)
   refine hK.out _ _ (Or.inr hH1) ?_
   clear hK K hx2
   try simp only [Act.put, pu1, pu2, pu3, pu4, pu5, pu6]
   generalize u0.alloc (.cells #[.slice none 0 0, .int .i64 0, .string ⟨#[]⟩, .string ⟨#[]⟩, .string ⟨#[]⟩, .string ⟨#[]⟩, .int .i64 0, .string ⟨#[]⟩, .string ⟨#[]⟩, .string ⟨#[]⟩, .string ⟨#[]⟩, .string ⟨#[]⟩, .bool false, .int .i64 0, .string ⟨#[]⟩, .string ⟨#[]⟩, .int .i64 0] 68) = u1 at *
   generalize u0.heap.size = g2 at *
   refine onY 5 (by rfl) fun K hK => ?_
   go_simp
   refine (Code.find_of l A n c HL.out hn p.id u1 (HSK.out _ hH1).its K0 HK0.out).mono ?_
   rintro e u2 ⟨rfl, hx1⟩
   have hH2 := hH1.trans (hx1.mono hH1.size)
   have hr2 := iNext hr1 hx1
   refine hK.out _ _ (Or.inr hH2) ?_
   clear hK K hx1
   try simp only [Act.put, pu1, pu2, pu3, pu4, pu5, pu6]
   refine tkY 6 11 ?_ rfl ?_ hH2 ?_
   rotate_left
   ·intro wS hS; go_simp; (try with_reducible rfl)
   simp only [Act.put, pu1, pu2, pu3, pu4, pu5, pu6]
   refine onY 8 (by rfl) fun K hK => ?_
   have hst := store_part (ty := 68) u2 g2 0 #[.slice none 0 0, .int .i64 0, .string ⟨#[]⟩, .string ⟨#[]⟩, .string ⟨#[]⟩, .string ⟨#[]⟩, .int .i64 0, .string ⟨#[]⟩, .string ⟨#[]⟩, .string ⟨#[]⟩, .string ⟨#[]⟩, .string ⟨#[]⟩, .bool false, .int .i64 0, .string ⟨#[]⟩, .string ⟨#[]⟩, .int .i64 0] (.agg #[.slice A n c, .int .i64 p.1, .string p.2, .string p.3, .string p.4, .string p.5, .int .i64 p.6.1, .string p.6.2, .string p.6.3, .string p.6.4, .string p.6.5, .string p.6.6, .bool p.6.7, .int .i64 p.7, .string p.8, .string p.9, .int .i64 K0]) #[.slice A n c, .int .i64 p.1, .string p.2, .string p.3, .string p.4, .string p.5, .int .i64 p.6.1, .string p.6.2, .string p.6.3, .string p.6.4, .string p.6.5, .string p.6.6, .bool p.6.7, .int .i64 p.7, .string p.8, .string p.9, .int .i64 K0] hr2 infoCh17 (Nat.le_refl _) (one_change A n c p K0) rfl
   go_simp
   clear hst
   have hr3 := setRow_heap u2 g2 _ #[.slice A n c, .int .i64 p.1, .string p.2, .string p.3, .string p.4, .string p.5, .int .i64 p.6.1, .string p.6.2, .string p.6.3, .string p.6.4, .string p.6.5, .string p.6.6, .bool p.6.7, .int .i64 p.7, .string p.8, .string p.9, .int .i64 K0] _ _ hr2
   have hH3 := below_setRow hH2 hg2 (g := g2) #[.slice A n c, .int .i64 p.1, .string p.2, .string p.3, .string p.4, .string p.5, .int .i64 p.6.1, .string p.6.2, .string p.6.3, .string p.6.4, .string p.6.5, .string p.6.6, .bool p.6.7, .int .i64 p.7, .string p.8, .string p.9, .int .i64 K0]
   refine hK.out _ _ (Or.inr hH3) ?_
   clear hK K
   try simp only [Act.put, pu1, pu2, pu3, pu4, pu5, pu6]
   refine dnY ?_
   go_wp2_with fail
   go_meet
   case rel => exact ⟨g2, rfl, hg2, hr3, hH3⟩
 case rest =>
  obtain ⟨b6, rfl, hb6, r6, hbw⟩ := hcut
  rename World => wq
  have hS4 := HSK.out _ hbw
  have hb4 := bnext hb3 hbw
  clear hbw HSK hS3 hb3
  have hst := store_new (ty := 71) (T := 71) wq #[.nilFunc, .nilFunc, .nilFunc, .nilFunc, .nilFunc, .nilFunc, .nilFunc, .nilFunc] #[.nilFunc, .func (.func 26) #[] #[], .func (.func 27) #[] #[], .func (.func 28) #[] #[], .func (.func 29) #[] #[], .func (.func 30) #[] #[], .func (.func 30) #[] #[], .func (.func 31) #[] #[]] (by kernel_rfl) rfl (by decide +kernel)
  have hb6q := lt_of_block r6
  go_upto_region 5 with (fail)
  clear hst
  have hbn := Below.news (Below.refl wq.heap.size wq) (.cells #[.nilFunc, .func (.func 26) #[] #[], .func (.func 27) #[] #[], .func (.func 28) #[] #[], .func (.func 29) #[] #[], .func (.func 30) #[] #[], .func (.func 30) #[] #[], .func (.func 31) #[] #[]] 71)
  have r7 := heap_alloc_new wq (.cells #[.nilFunc, .func (.func 26) #[] #[], .func (.func 27) #[] #[], .func (.func 28) #[] #[], .func (.func 29) #[] #[], .func (.func 30) #[] #[], .func (.func 30) #[] #[], .func (.func 31) #[] #[]] 71)
  have hS5 := hS4.below hbn
  have r65 := iNext r6 hbn
  have hb5 := bnext hb4 hbn
  clear hbn hS4 r6 hb4
  obtain ⟨b7, hb7⟩ : ∃ b7, b7 = wq.heap.size := ⟨_, rfl⟩
  rw [← hb7] at r7 hb6q ⊢
  have HB7 := hide hb7
  clear hb7
  generalize wq.alloc (.cells #[.nilFunc, .func (.func 26) #[] #[], .func (.func 27) #[] #[], .func (.func 28) #[] #[], .func (.func 29) #[] #[], .func (.func 30) #[] #[], .func (.func 30) #[] #[], .func (.func 31) #[] #[]] 71) = w5 at *
  clear HB7
  have c0 := (jC15 hS5.r2).1
  go_upto_region 14 with (fail)
  clear hk1
  clear c0
  have HSK2 := hide (fun X (hX : Below w5.heap.size w5 X) => hS5.below hX)
  have HR6 := hide (fun X (hX : Below w5.heap.size w5 X) => iNext r65 hX)
  have HR7 := hide (fun X (hX : Below w5.heap.size w5 X) => iNext r7 hX)
  have hsz5 := lt_of_block hS5.r3
  refine wp_region_noPanic ?_
  refine wp_region_L (Below w5.heap.size w5) 8 hmx ?_
  have hH0 : (Below w5.heap.size w5) w5.drew := (Below.refl w5.heap.size w5).drew
  generalize w5.drew = u0 at *
  refine tkY 0 12 ?_ rfl ?_ hH0 ?_
  rotate_left
  ·intro wS hS; go_simp; (try with_reducible rfl)
  simp only [Act.put, pu1, pu2, pu3, pu4, pu5, pu6]
  refine tkY 1 12 ?_ rfl ?_ hH0 ?_
  rotate_left
  ·intro wS hS; have c0 := (jC15 (HSK2.out _ hS).r2).1; go_simp; (try with_reducible rfl)
  simp only [Act.put, pu1, pu2, pu3, pu4, pu5, pu6]
  refine tkY 2 12 ?_ rfl ?_ hH0 ?_
  rotate_left
  ·intro wS hS; have hk := HK.out; go_simp; (try with_reducible rfl)
  simp only [Act.put, pu1, pu2, pu3, pu4, pu5, pu6]
  refine tkY 3 12 ?_ rfl ?_ hH0 ?_
  rotate_left
  ·intro wS hS; have cf := cell_of_row _ _ 1 _ _ (0, 0) (HR7.out _ hS); go_simp; (try with_reducible rfl)
  simp only [Act.put, pu1, pu2, pu3, pu4, pu5, pu6]
  refine tkV 4 12 (.agg #[.slice A n c, .int .i64 p.1, .string p.2, .string p.3, .string p.4, .string p.5, .int .i64 p.6.1, .string p.6.2, .string p.6.3, .string p.6.4, .string p.6.5, .string p.6.6, .bool p.6.7, .int .i64 p.7, .string p.8, .string p.9, .int .i64 K0]) rfl (by exact yieldsIf_load_mid (by rfl) 68 (.tmp 6) rfl b6 0 rfl [.slice A n c, .int .i64 p.1, .string p.2, .string p.3, .string p.4, .string p.5, .int .i64 p.6.1, .string p.6.2, .string p.6.3, .string p.6.4, .string p.6.5, .string p.6.6, .bool p.6.7, .int .i64 p.7, .string p.8, .string p.9, .int .i64 K0] _ (fun X hX => range_of (HR6.out X hX) 0 [.slice A n c, .int .i64 p.1, .string p.2, .string p.3, .string p.4, .string p.5, .int .i64 p.6.1, .string p.6.2, .string p.6.3, .string p.6.4, .string p.6.5, .string p.6.6, .bool p.6.7, .int .i64 p.7, .string p.8, .string p.9, .int .i64 K0] rfl) Try.underlying68 rfl (by kernel_rfl)) hH0 ?_
  simp only [Act.put, pu1, pu2, pu3, pu4, pu5, pu6]
  refine onY 5 (by rfl) fun K hK => ?_
  go_simp
  refine (insert_of l A n c HL.out hn p K0 HW.out HV.out HK0.out u0 (HSK2.out _ hH0).its).mono ?_
  rintro e u1 ⟨v', rfl, hO, hx1⟩
  have hH1 := hH0.trans (hx1.mono hH0.size)
  have hszu := hH0.size
  refine hK.out _ _ (Or.inr hH1) ?_
  clear hK K hx1
  try simp only [Act.put, pu1, pu2, pu3, pu4, pu5, pu6]
  refine tkY 6 12 ?_ rfl ?_ hH1 ?_
  rotate_left
  ·intro wS hS; go_simp; (try with_reducible rfl)
  simp only [Act.put, pu1, pu2, pu3, pu4, pu5, pu6]
  refine tkY 7 12 ?_ rfl ?_ hH1 ?_
  rotate_left
  ·intro wS hS; go_simp; (try with_reducible rfl)
  simp only [Act.put, pu1, pu2, pu3, pu4, pu5, pu6]
  refine onY 8 (by rfl) fun K hK => ?_
  obtain ⟨A', c', hv', _, _⟩ := hO.row
  obtain ⟨m', hm'⟩ : ∃ m', (Dg.insertP l p).1.length = m' := ⟨_, rfl⟩
  rw [hm'] at hv'
  clear hm'
  subst hv'
  have hst := store_part (ty := 24) u1 (w.heap.size + 1 + 1) 0 #[.slice none 0 0] (.agg #[.slice A' m' c']) #[.slice A' m' c'] (HSK2.out _ hH1).r3 infoCode1 (Nat.le_refl _) (one_code _ _ _) rfl
  have r25 := setRow_heap u1 (w.heap.size + 1 + 1) _ #[.slice A' m' c'] _ _ (HSK2.out _ hH1).r3
  have hb8 := below_setRow (bnext hb5 hH1) (by omega) (g := w.heap.size + 1 + 1) #[.slice A' m' c']
  have HO2 := hide (own_other hO (g := w.heap.size + 1 + 1) (fun e => by have := (World.ownsRow.lt hO _ e).1; omega) #[.slice A' m' c'])
  go_simp
  clear hst hO
  refine hK.out _ _ (Or.inl (by rfl)) ?_
  clear hK K hH1
  generalize u1.setRow (w.heap.size + 1 + 1) #[.slice A' m' c'] = u2 at *
  try simp only [Act.put, pu1, pu2, pu3, pu4, pu5, pu6]
  refine onY 9 (by rfl) fun K hK => ?_
  go_simp
  refine hK.out _ _ (Or.inl (by rfl)) ?_
  clear hK K
  try simp only [Act.put, pu1, pu2, pu3, pu4, pu5, pu6]
  refine dnY ?_
  have hsz0 : w.heap.size ≤ u0.heap.size := by have := hH0.size; omega
  go_wp2
  refine bodyPost_ret (results_c8 Try.results11 _ _ (w.heap.size + 1 + 1) 24 #[.slice A' m' c'] (0, 0) _ rfl r25 Try.underlying24 (by kernel_rfl)) rfl ⟨_, rfl, own_weak HO2.out (by omega), hb8⟩
end Go.Proofs.Ytgmimhgeigbpkaa
/- Apply of package patch, kinds but inserts. No conditions but those that each theorem states. -/
namespace Go.Proofs.Ytgmimhgeigbpkaa
open Go Go.RowKit Go.Sort Go.Maps
set_option maxRecDepth 100000 in
set_option maxHeartbeats 8000000 in
attribute [-go_sem] Instr.storeAt in
theorem apply_none (l : List Dg.It) (A : Option Addr) (n c : Nat) (hl : l.length = n) (hn : n ≤ 1048576) (hw : ∀ x ∈ l, ItW x) (p : Dg.Pt) (hp : PtW p) (h2 : p.kind ≠ 2) (hv : Dg.validC l = true) (y : Dg.It) (hy : Dg.itemA l p.id = y) (hf : Dg.formedP p = true) (k1 : (p.kind != 1) = true) (y0 : (y.kind == 0) = true)  (w : World) (hI : Its w w.heap.size A l) :
  Calls Try.prog 11 #[.agg #[.slice A n c], .agg #[.int .i64 p.1, .string p.2, .string p.3, .string p.4, .string p.5, .int .i64 p.6.1, .string p.6.2, .string p.6.3, .string p.6.4, .string p.6.5, .string p.6.6, .bool p.6.7, .int .i64 p.7, .string p.8, .string p.9]] w (ApR ([], 11) w) := by
 obtain ⟨r1, r2, r3, hb1, hs⟩ := iAlloc3 w (.cells #[.slice A n c] 24) (.cells #[.int .i64 p.1, .string p.2, .string p.3, .string p.4, .string p.5, .int .i64 p.6.1, .string p.6.2, .string p.6.3, .string p.6.4, .string p.6.5, .string p.6.6, .bool p.6.7, .int .i64 p.7, .string p.8, .string p.9] 39) (.cells #[.slice none 0 0] 24)
 have hS1 : ApS w.heap.size A n c l p (((w.alloc (.cells #[.slice A n c] 24)).alloc (.cells #[.int .i64 p.1, .string p.2, .string p.3, .string p.4, .string p.5, .int .i64 p.6.1, .string p.6.2, .string p.6.3, .string p.6.4, .string p.6.5, .string p.6.6, .bool p.6.7, .int .i64 p.7, .string p.8, .string p.9] 39)).alloc (.cells #[.slice none 0 0] 24)) := ⟨r1, r2, r3, hI.keep hb1⟩
 have hmx : Try.prog.follows .mixedOrders = true := by kernel_rfl
 have HS := hide hs; have HL := hide hl; have HW := hide hw; have HP := hide hp; have H2 := hide h2; have HV := hide hv
 clear r1 r2 r3 hs hI hl hw hp h2 hv
 have HF := hide hf
 clear hf
 have HY := hide hy
 clear hy
 have c1 := iCells0 hS1.r1
 go_enter Try.func11, Try.ntmps11
 go_wp2_with fail
 generalize ((w.alloc (.cells #[.slice A n c] 24)).alloc (.cells #[.int .i64 p.1, .string p.2, .string p.3, .string p.4, .string p.5, .int .i64 p.6.1, .string p.6.2, .string p.6.3, .string p.6.4, .string p.6.5, .string p.6.6, .bool p.6.7, .int .i64 p.7, .string p.8, .string p.9] 39)).alloc (.cells #[.slice none 0 0] 24) = w1 at *
 refine (Code.valid_of l A n c HL.out HW.out hn w1 hS1.its true HV.out).mono ?_
 rintro e w2 ⟨rfl, hbq⟩
 have hS2 := hS1.below hbq
 have hb2 := bnext hb1 hbq
 have hsz : w.heap.size + 3 ≤ w2.heap.size := by have := hbq.size; have := HS.out; omega
 clear hbq hS1 hb1 c1 HS
 have hL2 := hide (range_of hS2.r2 0 [.int .i64 p.1, .string p.2, .string p.3, .string p.4, .string p.5, .int .i64 p.6.1, .string p.6.2, .string p.6.3, .string p.6.4, .string p.6.5, .string p.6.6, .bool p.6.7, .int .i64 p.7, .string p.8, .string p.9] rfl)
 go_wp2_with (refine wpList_load_midW 39 (.tmp 3) rfl (by rfl) (w.heap.size + 1) 0 rfl _ _ hL2.out Try.underlying39 rfl (by kernel_rfl) ?_)
 clear hL2
 refine (formed_of p HP.out H2.out true HF.out w2).mono ?_
 rintro e w3 ⟨rfl, hbq⟩
 have hS3 := hS2.below hbq
 have hb3 := bnext hb2 hbq
 have hsz3 : w.heap.size + 3 ≤ w3.heap.size := by have := hbq.size; omega
 clear hbq hS2 hb2 hsz
 obtain ⟨K0, hK0⟩ : ∃ K, findX l p.id = K := ⟨_, rfl⟩
 have HK0 := hide hK0
 clear hK0
 have HSK := hide (fun X (hX : Below w3.heap.size w3 X) => hS3.below hX)
 go_upto_region 3 with (fail)
 go_cut [6] from 18 to 24 (fun v6 wx => ∃ b6 : Nat, v6 = .pointer (some ⟨b6, 0, none⟩) ∧ w3.heap.size ≤ b6 ∧ wx.heap[b6]? = some (.cells #[.slice A n c, .int .i64 p.1, .string p.2, .string p.3, .string p.4, .string p.5, .int .i64 p.6.1, .string p.6.2, .string p.6.3, .string p.6.4, .string p.6.5, .string p.6.6, .bool p.6.7, .int .i64 p.7, .string p.8, .string p.9, .int .i64 K0] 68 (0, 0)) ∧ Below w3.heap.size w3 wx)
 case first =>
  refine wp_region_noPanic ?_
  refine wp_region_L (Below w3.heap.size w3) 9 hmx ?_
  have hH0 : (Below w3.heap.size w3) w3.drew := (Below.refl w3.heap.size w3).drew
  generalize w3.drew = u0 at *
  refine tkY 0 11 ?_ rfl ?_ hH0 ?_
  rotate_left
  ·intro wS hS; have c1 := iCells0 (HSK.out _ hS).r1; go_simp; (try with_reducible rfl)
  simp only [Act.put, pu1, pu2, pu3, pu4, pu5, pu6]
  refine tkV 1 11 (.agg #[.int .i64 p.1, .string p.2, .string p.3, .string p.4, .string p.5, .int .i64 p.6.1, .string p.6.2, .string p.6.3, .string p.6.4, .string p.6.5, .string p.6.6, .bool p.6.7, .int .i64 p.7, .string p.8, .string p.9]) rfl (by exact yieldsIf_load_mid (by rfl) 39 (.tmp 3) rfl (w.heap.size + 1) 0 rfl [.int .i64 p.1, .string p.2, .string p.3, .string p.4, .string p.5, .int .i64 p.6.1, .string p.6.2, .string p.6.3, .string p.6.4, .string p.6.5, .string p.6.6, .bool p.6.7, .int .i64 p.7, .string p.8, .string p.9] _ (fun X hX => range_of (HSK.out X hX).r2 0 [.int .i64 p.1, .string p.2, .string p.3, .string p.4, .string p.5, .int .i64 p.6.1, .string p.6.2, .string p.6.3, .string p.6.4, .string p.6.5, .string p.6.6, .bool p.6.7, .int .i64 p.7, .string p.8, .string p.9] rfl) Try.underlying39 rfl (by kernel_rfl)) hH0 ?_
  simp only [Act.put, pu1, pu2, pu3, pu4, pu5, pu6]
  refine tkY 2 11 ?_ rfl ?_ hH0 ?_
  rotate_left
  ·intro wS hS; have c1 := iCells0 (HSK.out _ hS).r1; go_simp; (try with_reducible rfl)
  simp only [Act.put, pu1, pu2, pu3, pu4, pu5, pu6]
  refine tkY 3 11 ?_ rfl ?_ hH0 ?_
  rotate_left
  ·intro wS hS; go_simp; (try with_reducible rfl)
  simp only [Act.put, pu1, pu2, pu3, pu4, pu5, pu6]
  refine tkY 4 11 ?_ rfl ?_ hH0 ?_
  rotate_left
  ·intro wS hS; have k1 := (jC15 (HSK.out _ hS).r2).2.1; go_simp; (try with_reducible rfl)
  simp only [Act.put, pu1, pu2, pu3, pu4, pu5, pu6]
  refine wpAnyL_duo (i := 5) (j := 7) (by decide +kernel) (by rfl) (by rfl) (fun K hK => ?_) (fun K hK => ?_)
  ·rw [if_pos (by rfl)]
   go_simp
   refine (Code.find_of l A n c HL.out hn p.id u0 (HSK.out _ hH0).its K0 HK0.out).mono ?_
   rintro e u1 ⟨rfl, hx1⟩
   have hH1 := hH0.trans (hx1.mono hH0.size)
   refine hK.out _ _ (Or.inr hH1) ?_
   clear hK K hx1
   try simp only [Act.put, pu1, pu2, pu3, pu4, pu5, pu6]
   refine tkY 6 11 ?_ rfl ?_ hH1 ?_
   rotate_left
   ·intro wS hS; go_simp; (try with_reducible rfl)
   simp only [Act.put, pu1, pu2, pu3, pu4, pu5, pu6]
   refine onY 7 (by rfl) fun K hK => ?_
   go_simp
   have hx2 := Below.news (Below.refl u1.heap.size u1) (.cells #[.slice none 0 0, .int .i64 0, .string ⟨#[]⟩, .string ⟨#[]⟩, .string ⟨#[]⟩, .string ⟨#[]⟩, .int .i64 0, .string ⟨#[]⟩, .string ⟨#[]⟩, .string ⟨#[]⟩, .string ⟨#[]⟩, .string ⟨#[]⟩, .bool false, .int .i64 0, .string ⟨#[]⟩, .string ⟨#[]⟩, .int .i64 0] 68)
   have hr2 := heap_alloc_new u1 (.cells #[.slice none 0 0, .int .i64 0, .string ⟨#[]⟩, .string ⟨#[]⟩, .string ⟨#[]⟩, .string ⟨#[]⟩, .int .i64 0, .string ⟨#[]⟩, .string ⟨#[]⟩, .string ⟨#[]⟩, .string ⟨#[]⟩, .string ⟨#[]⟩, .bool false, .int .i64 0, .string ⟨#[]⟩, .string ⟨#[]⟩, .int .i64 0] 68)
   have hg2 : w3.heap.size ≤ u1.heap.size := hH1.size
   have hH2 := hH1.trans (hx2.mono hH1.size)
   refine hK.out _ _ (Or.inr hH2) ?_
   clear hK K hx2
   try simp only [Act.put, pu1, pu2, pu3, pu4, pu5, pu6]
   generalize u1.alloc (.cells #[.slice none 0 0, .int .i64 0, .string ⟨#[]⟩, .string ⟨#[]⟩, .string ⟨#[]⟩, .string ⟨#[]⟩, .int .i64 0, .string ⟨#[]⟩, .string ⟨#[]⟩, .string ⟨#[]⟩, .string ⟨#[]⟩, .string ⟨#[]⟩, .bool false, .int .i64 0, .string ⟨#[]⟩, .string ⟨#[]⟩, .int .i64 0] 68) = u2 at *
   generalize u1.heap.size = g2 at *
   refine onY 8 (by rfl) fun K hK => ?_
   have hst := store_part (ty := 68) u2 g2 0 #[.slice none 0 0, .int .i64 0, .string ⟨#[]⟩, .string ⟨#[]⟩, .string ⟨#[]⟩, .string ⟨#[]⟩, .int .i64 0, .string ⟨#[]⟩, .string ⟨#[]⟩, .string ⟨#[]⟩, .string ⟨#[]⟩, .string ⟨#[]⟩, .bool false, .int .i64 0, .string ⟨#[]⟩, .string ⟨#[]⟩, .int .i64 0] (.agg #[.slice A n c, .int .i64 p.1, .string p.2, .string p.3, .string p.4, .string p.5, .int .i64 p.6.1, .string p.6.2, .string p.6.3, .string p.6.4, .string p.6.5, .string p.6.6, .bool p.6.7, .int .i64 p.7, .string p.8, .string p.9, .int .i64 K0]) #[.slice A n c, .int .i64 p.1, .string p.2, .string p.3, .string p.4, .string p.5, .int .i64 p.6.1, .string p.6.2, .string p.6.3, .string p.6.4, .string p.6.5, .string p.6.6, .bool p.6.7, .int .i64 p.7, .string p.8, .string p.9, .int .i64 K0] hr2 infoCh17 (Nat.le_refl _) (one_change A n c p K0) rfl
   go_simp
   clear hst
   have hr3 := setRow_heap u2 g2 _ #[.slice A n c, .int .i64 p.1, .string p.2, .string p.3, .string p.4, .string p.5, .int .i64 p.6.1, .string p.6.2, .string p.6.3, .string p.6.4, .string p.6.5, .string p.6.6, .bool p.6.7, .int .i64 p.7, .string p.8, .string p.9, .int .i64 K0] _ _ hr2
   have hH3 := below_setRow hH2 hg2 (g := g2) #[.slice A n c, .int .i64 p.1, .string p.2, .string p.3, .string p.4, .string p.5, .int .i64 p.6.1, .string p.6.2, .string p.6.3, .string p.6.4, .string p.6.5, .string p.6.6, .bool p.6.7, .int .i64 p.7, .string p.8, .string p.9, .int .i64 K0]
   refine hK.out _ _ (Or.inr hH3) ?_
   clear hK K
   try simp only [Act.put, pu1, pu2, pu3, pu4, pu5, pu6]
   refine dnY ?_
   go_wp2_with fail
   go_meet
   case rel => exact ⟨g2, rfl, hg2, hr3, hH3⟩
  ·rw [if_pos (by rfl)]
   go_simp
   have hx2 := Below.news (Below.refl u0.heap.size u0) (.cells #[.slice none 0 0, .int .i64 0, .string ⟨#[]⟩, .string ⟨#[]⟩, .string ⟨#[]⟩, .string ⟨#[]⟩, .int .i64 0, .string ⟨#[]⟩, .string ⟨#[]⟩, .string ⟨#[]⟩, .string ⟨#[]⟩, .string ⟨#[]⟩, .bool false, .int .i64 0, .string ⟨#[]⟩, .string ⟨#[]⟩, .int .i64 0] 68)
   have hr1 := heap_alloc_new u0 (.cells #[.slice none 0 0, .int .i64 0, .string ⟨#[]⟩, .string ⟨#[]⟩, .string ⟨#[]⟩, .string ⟨#[]⟩, .int .i64 0, .string ⟨#[]⟩, .string ⟨#[]⟩, .string ⟨#[]⟩, .string ⟨#[]⟩, .string ⟨#[]⟩, .bool false, .int .i64 0, .string ⟨#[]⟩, .string ⟨#[]⟩, .int .i64 0] 68)
   have hg2 : w3.heap.size ≤ u0.heap.size := hH0.size
   have hH1 := hH0.trans (hx2.mono hH0.size)
   refine hK.out _ _ (Or.inr hH1) ?_
   clear hK K hx2
   try simp only [Act.put, pu1, pu2, pu3, pu4, pu5, pu6]
   generalize u0.alloc (.cells #[.slice none 0 0, .int .i64 0, .string ⟨#[]⟩, .string ⟨#[]⟩, .string ⟨#[]⟩, .string ⟨#[]⟩, .int .i64 0, .string ⟨#[]⟩, .string ⟨#[]⟩, .string ⟨#[]⟩, .string ⟨#[]⟩, .string ⟨#[]⟩, .bool false, .int .i64 0, .string ⟨#[]⟩, .string ⟨#[]⟩, .int .i64 0] 68) = u1 at *
   generalize u0.heap.size = g2 at *
   refine onY 5 (by rfl) fun K hK => ?_
   go_simp
   refine (Code.find_of l A n c HL.out hn p.id u1 (HSK.out _ hH1).its K0 HK0.out).mono ?_
   rintro e u2 ⟨rfl, hx1⟩
   have hH2 := hH1.trans (hx1.mono hH1.size)
   have hr2 := iNext hr1 hx1
   refine hK.out _ _ (Or.inr hH2) ?_
   clear hK K hx1
   try simp only [Act.put, pu1, pu2, pu3, pu4, pu5, pu6]
   refine tkY 6 11 ?_ rfl ?_ hH2 ?_
   rotate_left
   ·intro wS hS; go_simp; (try with_reducible rfl)
   simp only [Act.put, pu1, pu2, pu3, pu4, pu5, pu6]
   refine onY 8 (by rfl) fun K hK => ?_
   have hst := store_part (ty := 68) u2 g2 0 #[.slice none 0 0, .int .i64 0, .string ⟨#[]⟩, .string ⟨#[]⟩, .string ⟨#[]⟩, .string ⟨#[]⟩, .int .i64 0, .string ⟨#[]⟩, .string ⟨#[]⟩, .string ⟨#[]⟩, .string ⟨#[]⟩, .string ⟨#[]⟩, .bool false, .int .i64 0, .string ⟨#[]⟩, .string ⟨#[]⟩, .int .i64 0] (.agg #[.slice A n c, .int .i64 p.1, .string p.2, .string p.3, .string p.4, .string p.5, .int .i64 p.6.1, .string p.6.2, .string p.6.3, .string p.6.4, .string p.6.5, .string p.6.6, .bool p.6.7, .int .i64 p.7, .string p.8, .string p.9, .int .i64 K0]) #[.slice A n c, .int .i64 p.1, .string p.2, .string p.3, .string p.4, .string p.5, .int .i64 p.6.1, .string p.6.2, .string p.6.3, .string p.6.4, .string p.6.5, .string p.6.6, .bool p.6.7, .int .i64 p.7, .string p.8, .string p.9, .int .i64 K0] hr2 infoCh17 (Nat.le_refl _) (one_change A n c p K0) rfl
   go_simp
   clear hst
   have hr3 := setRow_heap u2 g2 _ #[.slice A n c, .int .i64 p.1, .string p.2, .string p.3, .string p.4, .string p.5, .int .i64 p.6.1, .string p.6.2, .string p.6.3, .string p.6.4, .string p.6.5, .string p.6.6, .bool p.6.7, .int .i64 p.7, .string p.8, .string p.9, .int .i64 K0] _ _ hr2
   have hH3 := below_setRow hH2 hg2 (g := g2) #[.slice A n c, .int .i64 p.1, .string p.2, .string p.3, .string p.4, .string p.5, .int .i64 p.6.1, .string p.6.2, .string p.6.3, .string p.6.4, .string p.6.5, .string p.6.6, .bool p.6.7, .int .i64 p.7, .string p.8, .string p.9, .int .i64 K0]
   refine hK.out _ _ (Or.inr hH3) ?_
   clear hK K
   try simp only [Act.put, pu1, pu2, pu3, pu4, pu5, pu6]
   refine dnY ?_
   go_wp2_with fail
   go_meet
   case rel => exact ⟨g2, rfl, hg2, hr3, hH3⟩
 case rest =>
  obtain ⟨b6, rfl, hb6, r6, hbw⟩ := hcut
  rename World => wq
  have hS4 := HSK.out _ hbw
  have hb4 := bnext hb3 hbw
  clear hbw HSK hS3 hb3
  have hst := store_new (ty := 71) (T := 71) wq #[.nilFunc, .nilFunc, .nilFunc, .nilFunc, .nilFunc, .nilFunc, .nilFunc, .nilFunc] #[.nilFunc, .func (.func 26) #[] #[], .func (.func 27) #[] #[], .func (.func 28) #[] #[], .func (.func 29) #[] #[], .func (.func 30) #[] #[], .func (.func 30) #[] #[], .func (.func 31) #[] #[]] (by kernel_rfl) rfl (by decide +kernel)
  have hb6q := lt_of_block r6
  go_upto_region 5 with (fail)
  clear hst
  have hbn := Below.news (Below.refl wq.heap.size wq) (.cells #[.nilFunc, .func (.func 26) #[] #[], .func (.func 27) #[] #[], .func (.func 28) #[] #[], .func (.func 29) #[] #[], .func (.func 30) #[] #[], .func (.func 30) #[] #[], .func (.func 31) #[] #[]] 71)
  have r7 := heap_alloc_new wq (.cells #[.nilFunc, .func (.func 26) #[] #[], .func (.func 27) #[] #[], .func (.func 28) #[] #[], .func (.func 29) #[] #[], .func (.func 30) #[] #[], .func (.func 30) #[] #[], .func (.func 31) #[] #[]] 71)
  have hS5 := hS4.below hbn
  have r65 := iNext r6 hbn
  have hb5 := bnext hb4 hbn
  clear hbn hS4 r6 hb4
  obtain ⟨b7, hb7⟩ : ∃ b7, b7 = wq.heap.size := ⟨_, rfl⟩
  rw [← hb7] at r7 hb6q ⊢
  have HB7 := hide hb7
  clear hb7
  generalize wq.alloc (.cells #[.nilFunc, .func (.func 26) #[] #[], .func (.func 27) #[] #[], .func (.func 28) #[] #[], .func (.func 29) #[] #[], .func (.func 30) #[] #[], .func (.func 30) #[] #[], .func (.func 31) #[] #[]] 71) = w5 at *
  clear HB7
  have c0 := (jC15 hS5.r2).1
  have k1 := (jC15 hS5.r2).2.1
  have hL6 := hide (range_of r65 0 [.slice A n c, .int .i64 p.1, .string p.2, .string p.3, .string p.4, .string p.5, .int .i64 p.6.1, .string p.6.2, .string p.6.3, .string p.6.4, .string p.6.5, .string p.6.6, .bool p.6.7, .int .i64 p.7, .string p.8, .string p.9, .int .i64 K0] rfl)
  go_wp2_with (with_reducible refine wpList_load_mid rfl 68 (.tmp 6) rfl b6 0 rfl _ _ hL6.out Try.underlying68 rfl (by kernel_rfl) ?_)
  refine (item_of l A n c HL.out hn p K0 p.id w5 hS5.its y HY.out).mono ?_
  rintro e w6 ⟨rfl, hbq⟩
  clear hL6 k1 c0
  have hS6 := hS5.below hbq
  have r66 := iNext r65 hbq
  have r76 := iNext r7 hbq
  have hb6' := bnext hb5 hbq
  clear hbq hS5 r65 r7 hb5
  have hst := store_new (ty := 37) (T := 37) w6 #[.int .i64 0, .string ⟨#[]⟩, .string ⟨#[]⟩, .string ⟨#[]⟩, .string ⟨#[]⟩, .string ⟨#[]⟩, .bool false] #[.int .i64 y.1, .string y.2, .string y.3, .string y.4, .string y.5, .string y.6, .bool y.7] (by kernel_rfl) rfl (all_oneCell_toArray (iLay.one y))
  go_upto_region 7 with (fail)
  clear hst
  have hbn := Below.news (Below.refl w6.heap.size w6) (.cells #[.int .i64 y.1, .string y.2, .string y.3, .string y.4, .string y.5, .string y.6, .bool y.7] 37)
  have r8 := heap_alloc_new w6 (.cells #[.int .i64 y.1, .string y.2, .string y.3, .string y.4, .string y.5, .string y.6, .bool y.7] 37)
  have hS7 := hS6.below hbn
  have r67 := iNext r66 hbn
  have r77 := iNext r76 hbn
  have hb7' := bnext hb6' hbn
  clear hbn hS6 r66 r76 hb6'
  obtain ⟨b8, hb8⟩ : ∃ b8, b8 = w6.heap.size := ⟨_, rfl⟩
  rw [← hb8] at r8 ⊢
  have HB8 := hide hb8
  clear hb8
  generalize w6.alloc (.cells #[.int .i64 y.1, .string y.2, .string y.3, .string y.4, .string y.5, .string y.6, .bool y.7] 37) = w7 at *
  clear HB8
  have c0 := (jC15 hS7.r2).1
  obtain ⟨z0, z1, z2, z3, z4, z5, z6⟩ := iCells r8
  clear z1 z2 z3 z4 z5
  have hsz7 := lt_of_block hS7.r3
  have hst := store_part (ty := 24) w7 (w.heap.size + 1 + 1) 0 #[.slice none 0 0] (.agg #[.slice none 0 0]) #[.slice none 0 0] hS7.r3 infoCode1 (Nat.le_refl _) (one_code _ _ _) rfl
  have r25 := setRow_heap w7 (w.heap.size + 1 + 1) _ #[.slice none 0 0] _ _ hS7.r3
  have hb8 := below_setRow hb7' (by omega) (g := w.heap.size + 1 + 1) #[.slice none 0 0]
  go_wp2
  refine bodyPost_ret (results_c8 Try.results11 _ _ (w.heap.size + 1 + 1) 24 #[.slice none 0 0] (0, 0) _ rfl r25 Try.underlying24 (by kernel_rfl)) rfl (ApR.err rfl hb8)
set_option maxRecDepth 100000 in
set_option maxHeartbeats 8000000 in
attribute [-go_sem] Instr.storeAt in
theorem apply_art (l : List Dg.It) (A : Option Addr) (n c : Nat) (hl : l.length = n) (hn : n ≤ 1048576) (hw : ∀ x ∈ l, ItW x) (p : Dg.Pt) (hp : PtW p) (h2 : p.kind ≠ 2) (hv : Dg.validC l = true) (y : Dg.It) (hy : Dg.itemA l p.id = y) (hf : Dg.formedP p = true) (k1 : (p.kind != 1) = true) (y0 : (y.kind == 0) = false) (y1 : (y.kind == 1) = true) (k3 : (p.kind != 3) = true) (k4 : (p.kind != 4) = true)  (w : World) (hI : Its w w.heap.size A l) :
  Calls Try.prog 11 #[.agg #[.slice A n c], .agg #[.int .i64 p.1, .string p.2, .string p.3, .string p.4, .string p.5, .int .i64 p.6.1, .string p.6.2, .string p.6.3, .string p.6.4, .string p.6.5, .string p.6.6, .bool p.6.7, .int .i64 p.7, .string p.8, .string p.9]] w (ApR ([], 11) w) := by
 obtain ⟨r1, r2, r3, hb1, hs⟩ := iAlloc3 w (.cells #[.slice A n c] 24) (.cells #[.int .i64 p.1, .string p.2, .string p.3, .string p.4, .string p.5, .int .i64 p.6.1, .string p.6.2, .string p.6.3, .string p.6.4, .string p.6.5, .string p.6.6, .bool p.6.7, .int .i64 p.7, .string p.8, .string p.9] 39) (.cells #[.slice none 0 0] 24)
 have hS1 : ApS w.heap.size A n c l p (((w.alloc (.cells #[.slice A n c] 24)).alloc (.cells #[.int .i64 p.1, .string p.2, .string p.3, .string p.4, .string p.5, .int .i64 p.6.1, .string p.6.2, .string p.6.3, .string p.6.4, .string p.6.5, .string p.6.6, .bool p.6.7, .int .i64 p.7, .string p.8, .string p.9] 39)).alloc (.cells #[.slice none 0 0] 24)) := ⟨r1, r2, r3, hI.keep hb1⟩
 have hmx : Try.prog.follows .mixedOrders = true := by kernel_rfl
 have HS := hide hs; have HL := hide hl; have HW := hide hw; have HP := hide hp; have H2 := hide h2; have HV := hide hv
 clear r1 r2 r3 hs hI hl hw hp h2 hv
 have HF := hide hf
 clear hf
 have HY := hide hy
 clear hy
 have c1 := iCells0 hS1.r1
 go_enter Try.func11, Try.ntmps11
 go_wp2_with fail
 generalize ((w.alloc (.cells #[.slice A n c] 24)).alloc (.cells #[.int .i64 p.1, .string p.2, .string p.3, .string p.4, .string p.5, .int .i64 p.6.1, .string p.6.2, .string p.6.3, .string p.6.4, .string p.6.5, .string p.6.6, .bool p.6.7, .int .i64 p.7, .string p.8, .string p.9] 39)).alloc (.cells #[.slice none 0 0] 24) = w1 at *
 refine (Code.valid_of l A n c HL.out HW.out hn w1 hS1.its true HV.out).mono ?_
 rintro e w2 ⟨rfl, hbq⟩
 have hS2 := hS1.below hbq
 have hb2 := bnext hb1 hbq
 have hsz : w.heap.size + 3 ≤ w2.heap.size := by have := hbq.size; have := HS.out; omega
 clear hbq hS1 hb1 c1 HS
 have hL2 := hide (range_of hS2.r2 0 [.int .i64 p.1, .string p.2, .string p.3, .string p.4, .string p.5, .int .i64 p.6.1, .string p.6.2, .string p.6.3, .string p.6.4, .string p.6.5, .string p.6.6, .bool p.6.7, .int .i64 p.7, .string p.8, .string p.9] rfl)
 go_wp2_with (refine wpList_load_midW 39 (.tmp 3) rfl (by rfl) (w.heap.size + 1) 0 rfl _ _ hL2.out Try.underlying39 rfl (by kernel_rfl) ?_)
 clear hL2
 refine (formed_of p HP.out H2.out true HF.out w2).mono ?_
 rintro e w3 ⟨rfl, hbq⟩
 have hS3 := hS2.below hbq
 have hb3 := bnext hb2 hbq
 have hsz3 : w.heap.size + 3 ≤ w3.heap.size := by have := hbq.size; omega
 clear hbq hS2 hb2 hsz
 obtain ⟨K0, hK0⟩ : ∃ K, findX l p.id = K := ⟨_, rfl⟩
 have HK0 := hide hK0
 clear hK0
 have HSK := hide (fun X (hX : Below w3.heap.size w3 X) => hS3.below hX)
 go_upto_region 3 with (fail)
 go_cut [6] from 18 to 24 (fun v6 wx => ∃ b6 : Nat, v6 = .pointer (some ⟨b6, 0, none⟩) ∧ w3.heap.size ≤ b6 ∧ wx.heap[b6]? = some (.cells #[.slice A n c, .int .i64 p.1, .string p.2, .string p.3, .string p.4, .string p.5, .int .i64 p.6.1, .string p.6.2, .string p.6.3, .string p.6.4, .string p.6.5, .string p.6.6, .bool p.6.7, .int .i64 p.7, .string p.8, .string p.9, .int .i64 K0] 68 (0, 0)) ∧ Below w3.heap.size w3 wx)
 case first =>
  refine wp_region_noPanic ?_
  refine wp_region_L (Below w3.heap.size w3) 9 hmx ?_
  have hH0 : (Below w3.heap.size w3) w3.drew := (Below.refl w3.heap.size w3).drew
  generalize w3.drew = u0 at *
  refine tkY 0 11 ?_ rfl ?_ hH0 ?_
  rotate_left
  ·intro wS hS; have c1 := iCells0 (HSK.out _ hS).r1; go_simp; (try with_reducible rfl)
  simp only [Act.put, pu1, pu2, pu3, pu4, pu5, pu6]
  refine tkV 1 11 (.agg #[.int .i64 p.1, .string p.2, .string p.3, .string p.4, .string p.5, .int .i64 p.6.1, .string p.6.2, .string p.6.3, .string p.6.4, .string p.6.5, .string p.6.6, .bool p.6.7, .int .i64 p.7, .string p.8, .string p.9]) rfl (by exact yieldsIf_load_mid (by rfl) 39 (.tmp 3) rfl (w.heap.size + 1) 0 rfl [.int .i64 p.1, .string p.2, .string p.3, .string p.4, .string p.5, .int .i64 p.6.1, .string p.6.2, .string p.6.3, .string p.6.4, .string p.6.5, .string p.6.6, .bool p.6.7, .int .i64 p.7, .string p.8, .string p.9] _ (fun X hX => range_of (HSK.out X hX).r2 0 [.int .i64 p.1, .string p.2, .string p.3, .string p.4, .string p.5, .int .i64 p.6.1, .string p.6.2, .string p.6.3, .string p.6.4, .string p.6.5, .string p.6.6, .bool p.6.7, .int .i64 p.7, .string p.8, .string p.9] rfl) Try.underlying39 rfl (by kernel_rfl)) hH0 ?_
  simp only [Act.put, pu1, pu2, pu3, pu4, pu5, pu6]
  refine tkY 2 11 ?_ rfl ?_ hH0 ?_
  rotate_left
  ·intro wS hS; have c1 := iCells0 (HSK.out _ hS).r1; go_simp; (try with_reducible rfl)
  simp only [Act.put, pu1, pu2, pu3, pu4, pu5, pu6]
  refine tkY 3 11 ?_ rfl ?_ hH0 ?_
  rotate_left
  ·intro wS hS; go_simp; (try with_reducible rfl)
  simp only [Act.put, pu1, pu2, pu3, pu4, pu5, pu6]
  refine tkY 4 11 ?_ rfl ?_ hH0 ?_
  rotate_left
  ·intro wS hS; have k1 := (jC15 (HSK.out _ hS).r2).2.1; go_simp; (try with_reducible rfl)
  simp only [Act.put, pu1, pu2, pu3, pu4, pu5, pu6]
  refine wpAnyL_duo (i := 5) (j := 7) (by decide +kernel) (by rfl) (by rfl) (fun K hK => ?_) (fun K hK => ?_)
  ·rw [if_pos (by rfl)]
   go_simp
   refine (Code.find_of l A n c HL.out hn p.id u0 (HSK.out _ hH0).its K0 HK0.out).mono ?_
   rintro e u1 ⟨rfl, hx1⟩
   have hH1 := hH0.trans (hx1.mono hH0.size)
   refine hK.out _ _ (Or.inr hH1) ?_
   clear hK K hx1
   try simp only [Act.put, pu1, pu2, pu3, pu4, pu5, pu6]
   refine tkY 6 11 ?_ rfl ?_ hH1 ?_
   rotate_left
   ·intro wS hS; go_simp; (try with_reducible rfl)
   simp only [Act.put, pu1, pu2, pu3, pu4, pu5, pu6]
   refine onY 7 (by rfl) fun K hK => ?_
   go_simp
   have hx2 := Below.news (Below.refl u1.heap.size u1) (.cells #[.slice none 0 0, .int .i64 0, .string ⟨#[]⟩, .string ⟨#[]⟩, .string ⟨#[]⟩, .string ⟨#[]⟩, .int .i64 0, .string ⟨#[]⟩, .string ⟨#[]⟩, .string ⟨#[]⟩, .string ⟨#[]⟩, .string ⟨#[]⟩, .bool false, .int .i64 0, .string ⟨#[]⟩, .string ⟨#[]⟩, .int .i64 0] 68)
   have hr2 := heap_alloc_new u1 (.cells #[.slice none 0 0, .int .i64 0, .string ⟨#[]⟩, .string ⟨#[]⟩, .string ⟨#[]⟩, .string ⟨#[]⟩, .int .i64 0, .string ⟨#[]⟩, .string ⟨#[]⟩, .string ⟨#[]⟩, .string ⟨#[]⟩, .string ⟨#[]⟩, .bool false, .int .i64 0, .string ⟨#[]⟩, .string ⟨#[]⟩, .int .i64 0] 68)
   have hg2 : w3.heap.size ≤ u1.heap.size := hH1.size
   have hH2 := hH1.trans (hx2.mono hH1.size)
   refine hK.out _ _ (Or.inr hH2) ?_
   clear hK K hx2
   try simp only [Act.put, pu1, pu2, pu3, pu4, pu5, pu6]
   generalize u1.alloc (.cells #[.slice none 0 0, .int .i64 0, .string ⟨#[]⟩, .string ⟨#[]⟩, .string ⟨#[]⟩, .string ⟨#[]⟩, .int .i64 0, .string ⟨#[]⟩, .string ⟨#[]⟩, .string ⟨#[]⟩, .string ⟨#[]⟩, .string ⟨#[]⟩, .bool false, .int .i64 0, .string ⟨#[]⟩, .string ⟨#[]⟩, .int .i64 0] 68) = u2 at *
   generalize u1.heap.size = g2 at *
   refine onY 8 (by rfl) fun K hK => ?_
   have hst := store_part (ty := 68) u2 g2 0 #[.slice none 0 0, .int .i64 0, .string ⟨#[]⟩, .string ⟨#[]⟩, .string ⟨#[]⟩, .string ⟨#[]⟩, .int .i64 0, .string ⟨#[]⟩, .string ⟨#[]⟩, .string ⟨#[]⟩, .string ⟨#[]⟩, .string ⟨#[]⟩, .bool false, .int .i64 0, .string ⟨#[]⟩, .string ⟨#[]⟩, .int .i64 0] (.agg #[.slice A n c, .int .i64 p.1, .string p.2, .string p.3, .string p.4, .string p.5, .int .i64 p.6.1, .string p.6.2, .string p.6.3, .string p.6.4, .string p.6.5, .string p.6.6, .bool p.6.7, .int .i64 p.7, .string p.8, .string p.9, .int .i64 K0]) #[.slice A n c, .int .i64 p.1, .string p.2, .string p.3, .string p.4, .string p.5, .int .i64 p.6.1, .string p.6.2, .string p.6.3, .string p.6.4, .string p.6.5, .string p.6.6, .bool p.6.7, .int .i64 p.7, .string p.8, .string p.9, .int .i64 K0] hr2 infoCh17 (Nat.le_refl _) (one_change A n c p K0) rfl
   go_simp
   clear hst
   have hr3 := setRow_heap u2 g2 _ #[.slice A n c, .int .i64 p.1, .string p.2, .string p.3, .string p.4, .string p.5, .int .i64 p.6.1, .string p.6.2, .string p.6.3, .string p.6.4, .string p.6.5, .string p.6.6, .bool p.6.7, .int .i64 p.7, .string p.8, .string p.9, .int .i64 K0] _ _ hr2
   have hH3 := below_setRow hH2 hg2 (g := g2) #[.slice A n c, .int .i64 p.1, .string p.2, .string p.3, .string p.4, .string p.5, .int .i64 p.6.1, .string p.6.2, .string p.6.3, .string p.6.4, .string p.6.5, .string p.6.6, .bool p.6.7, .int .i64 p.7, .string p.8, .string p.9, .int .i64 K0]
   refine hK.out _ _ (Or.inr hH3) ?_
   clear hK K
   try simp only [Act.put, pu1, pu2, pu3, pu4, pu5, pu6]
   refine dnY ?_
   go_wp2_with fail
   go_meet
   case rel => exact ⟨g2, rfl, hg2, hr3, hH3⟩
  ·rw [if_pos (by rfl)]
   go_simp
   have hx2 := Below.news (Below.refl u0.heap.size u0) (.cells #[.slice none 0 0, .int .i64 0, .string ⟨#[]⟩, .string ⟨#[]⟩, .string ⟨#[]⟩, .string ⟨#[]⟩, .int .i64 0, .string ⟨#[]⟩, .string ⟨#[]⟩, .string ⟨#[]⟩, .string ⟨#[]⟩, .string ⟨#[]⟩, .bool false, .int .i64 0, .string ⟨#[]⟩, .string ⟨#[]⟩, .int .i64 0] 68)
   have hr1 := heap_alloc_new u0 (.cells #[.slice none 0 0, .int .i64 0, .string ⟨#[]⟩, .string ⟨#[]⟩, .string ⟨#[]⟩, .string ⟨#[]⟩, .int .i64 0, .string ⟨#[]⟩, .string ⟨#[]⟩, .string ⟨#[]⟩, .string ⟨#[]⟩, .string ⟨#[]⟩, .bool false, .int .i64 0, .string ⟨#[]⟩, .string ⟨#[]⟩, .int .i64 0] 68)
   have hg2 : w3.heap.size ≤ u0.heap.size := hH0.size
   have hH1 := hH0.trans (hx2.mono hH0.size)
   refine hK.out _ _ (Or.inr hH1) ?_
   clear hK K hx2
   try simp only [Act.put, pu1, pu2, pu3, pu4, pu5, pu6]
   generalize u0.alloc (.cells #[.slice none 0 0, .int .i64 0, .string ⟨#[]⟩, .string ⟨#[]⟩, .string ⟨#[]⟩, .string ⟨#[]⟩, .int .i64 0, .string ⟨#[]⟩, .string ⟨#[]⟩, .string ⟨#[]⟩, .string ⟨#[]⟩, .string ⟨#[]⟩, .bool false, .int .i64 0, .string ⟨#[]⟩, .string ⟨#[]⟩, .int .i64 0] 68) = u1 at *
   generalize u0.heap.size = g2 at *
   refine onY 5 (by rfl) fun K hK => ?_
   go_simp
   refine (Code.find_of l A n c HL.out hn p.id u1 (HSK.out _ hH1).its K0 HK0.out).mono ?_
   rintro e u2 ⟨rfl, hx1⟩
   have hH2 := hH1.trans (hx1.mono hH1.size)
   have hr2 := iNext hr1 hx1
   refine hK.out _ _ (Or.inr hH2) ?_
   clear hK K hx1
   try simp only [Act.put, pu1, pu2, pu3, pu4, pu5, pu6]
   refine tkY 6 11 ?_ rfl ?_ hH2 ?_
   rotate_left
   ·intro wS hS; go_simp; (try with_reducible rfl)
   simp only [Act.put, pu1, pu2, pu3, pu4, pu5, pu6]
   refine onY 8 (by rfl) fun K hK => ?_
   have hst := store_part (ty := 68) u2 g2 0 #[.slice none 0 0, .int .i64 0, .string ⟨#[]⟩, .string ⟨#[]⟩, .string ⟨#[]⟩, .string ⟨#[]⟩, .int .i64 0, .string ⟨#[]⟩, .string ⟨#[]⟩, .string ⟨#[]⟩, .string ⟨#[]⟩, .string ⟨#[]⟩, .bool false, .int .i64 0, .string ⟨#[]⟩, .string ⟨#[]⟩, .int .i64 0] (.agg #[.slice A n c, .int .i64 p.1, .string p.2, .string p.3, .string p.4, .string p.5, .int .i64 p.6.1, .string p.6.2, .string p.6.3, .string p.6.4, .string p.6.5, .string p.6.6, .bool p.6.7, .int .i64 p.7, .string p.8, .string p.9, .int .i64 K0]) #[.slice A n c, .int .i64 p.1, .string p.2, .string p.3, .string p.4, .string p.5, .int .i64 p.6.1, .string p.6.2, .string p.6.3, .string p.6.4, .string p.6.5, .string p.6.6, .bool p.6.7, .int .i64 p.7, .string p.8, .string p.9, .int .i64 K0] hr2 infoCh17 (Nat.le_refl _) (one_change A n c p K0) rfl
   go_simp
   clear hst
   have hr3 := setRow_heap u2 g2 _ #[.slice A n c, .int .i64 p.1, .string p.2, .string p.3, .string p.4, .string p.5, .int .i64 p.6.1, .string p.6.2, .string p.6.3, .string p.6.4, .string p.6.5, .string p.6.6, .bool p.6.7, .int .i64 p.7, .string p.8, .string p.9, .int .i64 K0] _ _ hr2
   have hH3 := below_setRow hH2 hg2 (g := g2) #[.slice A n c, .int .i64 p.1, .string p.2, .string p.3, .string p.4, .string p.5, .int .i64 p.6.1, .string p.6.2, .string p.6.3, .string p.6.4, .string p.6.5, .string p.6.6, .bool p.6.7, .int .i64 p.7, .string p.8, .string p.9, .int .i64 K0]
   refine hK.out _ _ (Or.inr hH3) ?_
   clear hK K
   try simp only [Act.put, pu1, pu2, pu3, pu4, pu5, pu6]
   refine dnY ?_
   go_wp2_with fail
   go_meet
   case rel => exact ⟨g2, rfl, hg2, hr3, hH3⟩
 case rest =>
  obtain ⟨b6, rfl, hb6, r6, hbw⟩ := hcut
  rename World => wq
  have hS4 := HSK.out _ hbw
  have hb4 := bnext hb3 hbw
  clear hbw HSK hS3 hb3
  have hst := store_new (ty := 71) (T := 71) wq #[.nilFunc, .nilFunc, .nilFunc, .nilFunc, .nilFunc, .nilFunc, .nilFunc, .nilFunc] #[.nilFunc, .func (.func 26) #[] #[], .func (.func 27) #[] #[], .func (.func 28) #[] #[], .func (.func 29) #[] #[], .func (.func 30) #[] #[], .func (.func 30) #[] #[], .func (.func 31) #[] #[]] (by kernel_rfl) rfl (by decide +kernel)
  have hb6q := lt_of_block r6
  go_upto_region 5 with (fail)
  clear hst
  have hbn := Below.news (Below.refl wq.heap.size wq) (.cells #[.nilFunc, .func (.func 26) #[] #[], .func (.func 27) #[] #[], .func (.func 28) #[] #[], .func (.func 29) #[] #[], .func (.func 30) #[] #[], .func (.func 30) #[] #[], .func (.func 31) #[] #[]] 71)
  have r7 := heap_alloc_new wq (.cells #[.nilFunc, .func (.func 26) #[] #[], .func (.func 27) #[] #[], .func (.func 28) #[] #[], .func (.func 29) #[] #[], .func (.func 30) #[] #[], .func (.func 30) #[] #[], .func (.func 31) #[] #[]] 71)
  have hS5 := hS4.below hbn
  have r65 := iNext r6 hbn
  have hb5 := bnext hb4 hbn
  clear hbn hS4 r6 hb4
  obtain ⟨b7, hb7⟩ : ∃ b7, b7 = wq.heap.size := ⟨_, rfl⟩
  rw [← hb7] at r7 hb6q ⊢
  have HB7 := hide hb7
  clear hb7
  generalize wq.alloc (.cells #[.nilFunc, .func (.func 26) #[] #[], .func (.func 27) #[] #[], .func (.func 28) #[] #[], .func (.func 29) #[] #[], .func (.func 30) #[] #[], .func (.func 30) #[] #[], .func (.func 31) #[] #[]] 71) = w5 at *
  clear HB7
  have c0 := (jC15 hS5.r2).1
  have k1 := (jC15 hS5.r2).2.1
  have hL6 := hide (range_of r65 0 [.slice A n c, .int .i64 p.1, .string p.2, .string p.3, .string p.4, .string p.5, .int .i64 p.6.1, .string p.6.2, .string p.6.3, .string p.6.4, .string p.6.5, .string p.6.6, .bool p.6.7, .int .i64 p.7, .string p.8, .string p.9, .int .i64 K0] rfl)
  go_wp2_with (with_reducible refine wpList_load_mid rfl 68 (.tmp 6) rfl b6 0 rfl _ _ hL6.out Try.underlying68 rfl (by kernel_rfl) ?_)
  refine (item_of l A n c HL.out hn p K0 p.id w5 hS5.its y HY.out).mono ?_
  rintro e w6 ⟨rfl, hbq⟩
  clear hL6 k1 c0
  have hS6 := hS5.below hbq
  have r66 := iNext r65 hbq
  have r76 := iNext r7 hbq
  have hb6' := bnext hb5 hbq
  clear hbq hS5 r65 r7 hb5
  have hst := store_new (ty := 37) (T := 37) w6 #[.int .i64 0, .string ⟨#[]⟩, .string ⟨#[]⟩, .string ⟨#[]⟩, .string ⟨#[]⟩, .string ⟨#[]⟩, .bool false] #[.int .i64 y.1, .string y.2, .string y.3, .string y.4, .string y.5, .string y.6, .bool y.7] (by kernel_rfl) rfl (all_oneCell_toArray (iLay.one y))
  go_upto_region 7 with (fail)
  clear hst
  have hbn := Below.news (Below.refl w6.heap.size w6) (.cells #[.int .i64 y.1, .string y.2, .string y.3, .string y.4, .string y.5, .string y.6, .bool y.7] 37)
  have r8 := heap_alloc_new w6 (.cells #[.int .i64 y.1, .string y.2, .string y.3, .string y.4, .string y.5, .string y.6, .bool y.7] 37)
  have hS7 := hS6.below hbn
  have r67 := iNext r66 hbn
  have r77 := iNext r76 hbn
  have hb7' := bnext hb6' hbn
  clear hbn hS6 r66 r76 hb6'
  obtain ⟨b8, hb8⟩ : ∃ b8, b8 = w6.heap.size := ⟨_, rfl⟩
  rw [← hb8] at r8 ⊢
  have HB8 := hide hb8
  clear hb8
  generalize w6.alloc (.cells #[.int .i64 y.1, .string y.2, .string y.3, .string y.4, .string y.5, .string y.6, .bool y.7] 37) = w7 at *
  clear HB8
  have c0 := (jC15 hS7.r2).1
  obtain ⟨z0, z1, z2, z3, z4, z5, z6⟩ := iCells r8
  clear z1 z2 z3 z4 z5
  have hsz7 := lt_of_block hS7.r3
  have hst := store_part (ty := 24) w7 (w.heap.size + 1 + 1) 0 #[.slice none 0 0] (.agg #[.slice none 0 0]) #[.slice none 0 0] hS7.r3 infoCode1 (Nat.le_refl _) (one_code _ _ _) rfl
  have r25 := setRow_heap w7 (w.heap.size + 1 + 1) _ #[.slice none 0 0] _ _ hS7.r3
  have hb8 := below_setRow hb7' (by omega) (g := w.heap.size + 1 + 1) #[.slice none 0 0]
  go_wp2
  refine bodyPost_ret (results_c8 Try.results11 _ _ (w.heap.size + 1 + 1) 24 #[.slice none 0 0] (0, 0) _ rfl r25 Try.underlying24 (by kernel_rfl)) rfl (ApR.err rfl hb8)
set_option maxRecDepth 100000 in
set_option maxHeartbeats 8000000 in
attribute [-go_sem] Instr.storeAt in
theorem apply_state (l : List Dg.It) (A : Option Addr) (n c : Nat) (hl : l.length = n) (hn : n ≤ 1048576) (hw : ∀ x ∈ l, ItW x) (p : Dg.Pt) (hp : PtW p) (h2 : p.kind ≠ 2) (hv : Dg.validC l = true) (y : Dg.It) (hy : Dg.itemA l p.id = y) (hf : Dg.formedP p = true) (k1 : (p.kind != 1) = true) (y0 : (y.kind == 0) = false) (y1 : (y.kind == 1) = false) (k6 : (p.kind == 6) = true) (yg : y.gone = false)  (w : World) (hI : Its w w.heap.size A l) :
  Calls Try.prog 11 #[.agg #[.slice A n c], .agg #[.int .i64 p.1, .string p.2, .string p.3, .string p.4, .string p.5, .int .i64 p.6.1, .string p.6.2, .string p.6.3, .string p.6.4, .string p.6.5, .string p.6.6, .bool p.6.7, .int .i64 p.7, .string p.8, .string p.9]] w (ApR ([], 12) w) := by
 obtain ⟨r1, r2, r3, hb1, hs⟩ := iAlloc3 w (.cells #[.slice A n c] 24) (.cells #[.int .i64 p.1, .string p.2, .string p.3, .string p.4, .string p.5, .int .i64 p.6.1, .string p.6.2, .string p.6.3, .string p.6.4, .string p.6.5, .string p.6.6, .bool p.6.7, .int .i64 p.7, .string p.8, .string p.9] 39) (.cells #[.slice none 0 0] 24)
 have hS1 : ApS w.heap.size A n c l p (((w.alloc (.cells #[.slice A n c] 24)).alloc (.cells #[.int .i64 p.1, .string p.2, .string p.3, .string p.4, .string p.5, .int .i64 p.6.1, .string p.6.2, .string p.6.3, .string p.6.4, .string p.6.5, .string p.6.6, .bool p.6.7, .int .i64 p.7, .string p.8, .string p.9] 39)).alloc (.cells #[.slice none 0 0] 24)) := ⟨r1, r2, r3, hI.keep hb1⟩
 have hmx : Try.prog.follows .mixedOrders = true := by kernel_rfl
 have HS := hide hs; have HL := hide hl; have HW := hide hw; have HP := hide hp; have H2 := hide h2; have HV := hide hv
 clear r1 r2 r3 hs hI hl hw hp h2 hv
 have HF := hide hf
 clear hf
 have HY := hide hy
 clear hy
 have YG := hide yg
 clear yg
 have c1 := iCells0 hS1.r1
 go_enter Try.func11, Try.ntmps11
 go_wp2_with fail
 generalize ((w.alloc (.cells #[.slice A n c] 24)).alloc (.cells #[.int .i64 p.1, .string p.2, .string p.3, .string p.4, .string p.5, .int .i64 p.6.1, .string p.6.2, .string p.6.3, .string p.6.4, .string p.6.5, .string p.6.6, .bool p.6.7, .int .i64 p.7, .string p.8, .string p.9] 39)).alloc (.cells #[.slice none 0 0] 24) = w1 at *
 refine (Code.valid_of l A n c HL.out HW.out hn w1 hS1.its true HV.out).mono ?_
 rintro e w2 ⟨rfl, hbq⟩
 have hS2 := hS1.below hbq
 have hb2 := bnext hb1 hbq
 have hsz : w.heap.size + 3 ≤ w2.heap.size := by have := hbq.size; have := HS.out; omega
 clear hbq hS1 hb1 c1 HS
 have hL2 := hide (range_of hS2.r2 0 [.int .i64 p.1, .string p.2, .string p.3, .string p.4, .string p.5, .int .i64 p.6.1, .string p.6.2, .string p.6.3, .string p.6.4, .string p.6.5, .string p.6.6, .bool p.6.7, .int .i64 p.7, .string p.8, .string p.9] rfl)
 go_wp2_with (refine wpList_load_midW 39 (.tmp 3) rfl (by rfl) (w.heap.size + 1) 0 rfl _ _ hL2.out Try.underlying39 rfl (by kernel_rfl) ?_)
 clear hL2
 refine (formed_of p HP.out H2.out true HF.out w2).mono ?_
 rintro e w3 ⟨rfl, hbq⟩
 have hS3 := hS2.below hbq
 have hb3 := bnext hb2 hbq
 have hsz3 : w.heap.size + 3 ≤ w3.heap.size := by have := hbq.size; omega
 clear hbq hS2 hb2 hsz
 obtain ⟨K0, hK0⟩ : ∃ K, findX l p.id = K := ⟨_, rfl⟩
 have HK0 := hide hK0
 clear hK0
 have HSK := hide (fun X (hX : Below w3.heap.size w3 X) => hS3.below hX)
 go_upto_region 3 with (fail)
 go_cut [6] from 18 to 24 (fun v6 wx => ∃ b6 : Nat, v6 = .pointer (some ⟨b6, 0, none⟩) ∧ w3.heap.size ≤ b6 ∧ wx.heap[b6]? = some (.cells #[.slice A n c, .int .i64 p.1, .string p.2, .string p.3, .string p.4, .string p.5, .int .i64 p.6.1, .string p.6.2, .string p.6.3, .string p.6.4, .string p.6.5, .string p.6.6, .bool p.6.7, .int .i64 p.7, .string p.8, .string p.9, .int .i64 K0] 68 (0, 0)) ∧ Below w3.heap.size w3 wx)
 case first =>
  refine wp_region_noPanic ?_
  refine wp_region_L (Below w3.heap.size w3) 9 hmx ?_
  have hH0 : (Below w3.heap.size w3) w3.drew := (Below.refl w3.heap.size w3).drew
  generalize w3.drew = u0 at *
  refine tkY 0 11 ?_ rfl ?_ hH0 ?_
  rotate_left
  ·intro wS hS; have c1 := iCells0 (HSK.out _ hS).r1; go_simp; (try with_reducible rfl)
  simp only [Act.put, pu1, pu2, pu3, pu4, pu5, pu6]
  refine tkV 1 11 (.agg #[.int .i64 p.1, .string p.2, .string p.3, .string p.4, .string p.5, .int .i64 p.6.1, .string p.6.2, .string p.6.3, .string p.6.4, .string p.6.5, .string p.6.6, .bool p.6.7, .int .i64 p.7, .string p.8, .string p.9]) rfl (by exact yieldsIf_load_mid (by rfl) 39 (.tmp 3) rfl (w.heap.size + 1) 0 rfl [.int .i64 p.1, .string p.2, .string p.3, .string p.4, .string p.5, .int .i64 p.6.1, .string p.6.2, .string p.6.3, .string p.6.4, .string p.6.5, .string p.6.6, .bool p.6.7, .int .i64 p.7, .string p.8, .string p.9] _ (fun X hX => range_of (HSK.out X hX).r2 0 [.int .i64 p.1, .string p.2, .string p.3, .string p.4, .string p.5, .int .i64 p.6.1, .string p.6.2, .string p.6.3, .string p.6.4, .string p.6.5, .string p.6.6, .bool p.6.7, .int .i64 p.7, .string p.8, .string p.9] rfl) Try.underlying39 rfl (by kernel_rfl)) hH0 ?_
  simp only [Act.put, pu1, pu2, pu3, pu4, pu5, pu6]
  refine tkY 2 11 ?_ rfl ?_ hH0 ?_
  rotate_left
  ·intro wS hS; have c1 := iCells0 (HSK.out _ hS).r1; go_simp; (try with_reducible rfl)
  simp only [Act.put, pu1, pu2, pu3, pu4, pu5, pu6]
  refine tkY 3 11 ?_ rfl ?_ hH0 ?_
  rotate_left
  ·intro wS hS; go_simp; (try with_reducible rfl)
  simp only [Act.put, pu1, pu2, pu3, pu4, pu5, pu6]
  refine tkY 4 11 ?_ rfl ?_ hH0 ?_
  rotate_left
  ·intro wS hS; have k1 := (jC15 (HSK.out _ hS).r2).2.1; go_simp; (try with_reducible rfl)
  simp only [Act.put, pu1, pu2, pu3, pu4, pu5, pu6]
  refine wpAnyL_duo (i := 5) (j := 7) (by decide +kernel) (by rfl) (by rfl) (fun K hK => ?_) (fun K hK => ?_)
  ·rw [if_pos (by rfl)]
   go_simp
   refine (Code.find_of l A n c HL.out hn p.id u0 (HSK.out _ hH0).its K0 HK0.out).mono ?_
   rintro e u1 ⟨rfl, hx1⟩
   have hH1 := hH0.trans (hx1.mono hH0.size)
   refine hK.out _ _ (Or.inr hH1) ?_
   clear hK K hx1
   try simp only [Act.put, pu1, pu2, pu3, pu4, pu5, pu6]
   refine tkY 6 11 ?_ rfl ?_ hH1 ?_
   rotate_left
   ·intro wS hS; go_simp; (try with_reducible rfl)
   simp only [Act.put, pu1, pu2, pu3, pu4, pu5, pu6]
   refine onY 7 (by rfl) fun K hK => ?_
   go_simp
   have hx2 := Below.news (Below.refl u1.heap.size u1) (.cells #[.slice none 0 0, .int .i64 0, .string ⟨#[]⟩, .string ⟨#[]⟩, .string ⟨#[]⟩, .string ⟨#[]⟩, .int .i64 0, .string ⟨#[]⟩, .string ⟨#[]⟩, .string ⟨#[]⟩, .string ⟨#[]⟩, .string ⟨#[]⟩, .bool false, .int .i64 0, .string ⟨#[]⟩, .string ⟨#[]⟩, .int .i64 0] 68)
   have hr2 := heap_alloc_new u1 (.cells #[.slice none 0 0, .int .i64 0, .string ⟨#[]⟩, .string ⟨#[]⟩, .string ⟨#[]⟩, .string ⟨#[]⟩, .int .i64 0, .string ⟨#[]⟩, .string ⟨#[]⟩, .string ⟨#[]⟩, .string ⟨#[]⟩, .string ⟨#[]⟩, .bool false, .int .i64 0, .string ⟨#[]⟩, .string ⟨#[]⟩, .int .i64 0] 68)
   have hg2 : w3.heap.size ≤ u1.heap.size := hH1.size
   have hH2 := hH1.trans (hx2.mono hH1.size)
   refine hK.out _ _ (Or.inr hH2) ?_
   clear hK K hx2
   try simp only [Act.put, pu1, pu2, pu3, pu4, pu5, pu6]
   generalize u1.alloc (.cells #[.slice none 0 0, .int .i64 0, .string ⟨#[]⟩, .string ⟨#[]⟩, .string ⟨#[]⟩, .string ⟨#[]⟩, .int .i64 0, .string ⟨#[]⟩, .string ⟨#[]⟩, .string ⟨#[]⟩, .string ⟨#[]⟩, .string ⟨#[]⟩, .bool false, .int .i64 0, .string ⟨#[]⟩, .string ⟨#[]⟩, .int .i64 0] 68) = u2 at *
   generalize u1.heap.size = g2 at *
   refine onY 8 (by rfl) fun K hK => ?_
   have hst := store_part (ty := 68) u2 g2 0 #[.slice none 0 0, .int .i64 0, .string ⟨#[]⟩, .string ⟨#[]⟩, .string ⟨#[]⟩, .string ⟨#[]⟩, .int .i64 0, .string ⟨#[]⟩, .string ⟨#[]⟩, .string ⟨#[]⟩, .string ⟨#[]⟩, .string ⟨#[]⟩, .bool false, .int .i64 0, .string ⟨#[]⟩, .string ⟨#[]⟩, .int .i64 0] (.agg #[.slice A n c, .int .i64 p.1, .string p.2, .string p.3, .string p.4, .string p.5, .int .i64 p.6.1, .string p.6.2, .string p.6.3, .string p.6.4, .string p.6.5, .string p.6.6, .bool p.6.7, .int .i64 p.7, .string p.8, .string p.9, .int .i64 K0]) #[.slice A n c, .int .i64 p.1, .string p.2, .string p.3, .string p.4, .string p.5, .int .i64 p.6.1, .string p.6.2, .string p.6.3, .string p.6.4, .string p.6.5, .string p.6.6, .bool p.6.7, .int .i64 p.7, .string p.8, .string p.9, .int .i64 K0] hr2 infoCh17 (Nat.le_refl _) (one_change A n c p K0) rfl
   go_simp
   clear hst
   have hr3 := setRow_heap u2 g2 _ #[.slice A n c, .int .i64 p.1, .string p.2, .string p.3, .string p.4, .string p.5, .int .i64 p.6.1, .string p.6.2, .string p.6.3, .string p.6.4, .string p.6.5, .string p.6.6, .bool p.6.7, .int .i64 p.7, .string p.8, .string p.9, .int .i64 K0] _ _ hr2
   have hH3 := below_setRow hH2 hg2 (g := g2) #[.slice A n c, .int .i64 p.1, .string p.2, .string p.3, .string p.4, .string p.5, .int .i64 p.6.1, .string p.6.2, .string p.6.3, .string p.6.4, .string p.6.5, .string p.6.6, .bool p.6.7, .int .i64 p.7, .string p.8, .string p.9, .int .i64 K0]
   refine hK.out _ _ (Or.inr hH3) ?_
   clear hK K
   try simp only [Act.put, pu1, pu2, pu3, pu4, pu5, pu6]
   refine dnY ?_
   go_wp2_with fail
   go_meet
   case rel => exact ⟨g2, rfl, hg2, hr3, hH3⟩
  ·rw [if_pos (by rfl)]
   go_simp
   have hx2 := Below.news (Below.refl u0.heap.size u0) (.cells #[.slice none 0 0, .int .i64 0, .string ⟨#[]⟩, .string ⟨#[]⟩, .string ⟨#[]⟩, .string ⟨#[]⟩, .int .i64 0, .string ⟨#[]⟩, .string ⟨#[]⟩, .string ⟨#[]⟩, .string ⟨#[]⟩, .string ⟨#[]⟩, .bool false, .int .i64 0, .string ⟨#[]⟩, .string ⟨#[]⟩, .int .i64 0] 68)
   have hr1 := heap_alloc_new u0 (.cells #[.slice none 0 0, .int .i64 0, .string ⟨#[]⟩, .string ⟨#[]⟩, .string ⟨#[]⟩, .string ⟨#[]⟩, .int .i64 0, .string ⟨#[]⟩, .string ⟨#[]⟩, .string ⟨#[]⟩, .string ⟨#[]⟩, .string ⟨#[]⟩, .bool false, .int .i64 0, .string ⟨#[]⟩, .string ⟨#[]⟩, .int .i64 0] 68)
   have hg2 : w3.heap.size ≤ u0.heap.size := hH0.size
   have hH1 := hH0.trans (hx2.mono hH0.size)
   refine hK.out _ _ (Or.inr hH1) ?_
   clear hK K hx2
   try simp only [Act.put, pu1, pu2, pu3, pu4, pu5, pu6]
   generalize u0.alloc (.cells #[.slice none 0 0, .int .i64 0, .string ⟨#[]⟩, .string ⟨#[]⟩, .string ⟨#[]⟩, .string ⟨#[]⟩, .int .i64 0, .string ⟨#[]⟩, .string ⟨#[]⟩, .string ⟨#[]⟩, .string ⟨#[]⟩, .string ⟨#[]⟩, .bool false, .int .i64 0, .string ⟨#[]⟩, .string ⟨#[]⟩, .int .i64 0] 68) = u1 at *
   generalize u0.heap.size = g2 at *
   refine onY 5 (by rfl) fun K hK => ?_
   go_simp
   refine (Code.find_of l A n c HL.out hn p.id u1 (HSK.out _ hH1).its K0 HK0.out).mono ?_
   rintro e u2 ⟨rfl, hx1⟩
   have hH2 := hH1.trans (hx1.mono hH1.size)
   have hr2 := iNext hr1 hx1
   refine hK.out _ _ (Or.inr hH2) ?_
   clear hK K hx1
   try simp only [Act.put, pu1, pu2, pu3, pu4, pu5, pu6]
   refine tkY 6 11 ?_ rfl ?_ hH2 ?_
   rotate_left
   ·intro wS hS; go_simp; (try with_reducible rfl)
   simp only [Act.put, pu1, pu2, pu3, pu4, pu5, pu6]
   refine onY 8 (by rfl) fun K hK => ?_
   have hst := store_part (ty := 68) u2 g2 0 #[.slice none 0 0, .int .i64 0, .string ⟨#[]⟩, .string ⟨#[]⟩, .string ⟨#[]⟩, .string ⟨#[]⟩, .int .i64 0, .string ⟨#[]⟩, .string ⟨#[]⟩, .string ⟨#[]⟩, .string ⟨#[]⟩, .string ⟨#[]⟩, .bool false, .int .i64 0, .string ⟨#[]⟩, .string ⟨#[]⟩, .int .i64 0] (.agg #[.slice A n c, .int .i64 p.1, .string p.2, .string p.3, .string p.4, .string p.5, .int .i64 p.6.1, .string p.6.2, .string p.6.3, .string p.6.4, .string p.6.5, .string p.6.6, .bool p.6.7, .int .i64 p.7, .string p.8, .string p.9, .int .i64 K0]) #[.slice A n c, .int .i64 p.1, .string p.2, .string p.3, .string p.4, .string p.5, .int .i64 p.6.1, .string p.6.2, .string p.6.3, .string p.6.4, .string p.6.5, .string p.6.6, .bool p.6.7, .int .i64 p.7, .string p.8, .string p.9, .int .i64 K0] hr2 infoCh17 (Nat.le_refl _) (one_change A n c p K0) rfl
   go_simp
   clear hst
   have hr3 := setRow_heap u2 g2 _ #[.slice A n c, .int .i64 p.1, .string p.2, .string p.3, .string p.4, .string p.5, .int .i64 p.6.1, .string p.6.2, .string p.6.3, .string p.6.4, .string p.6.5, .string p.6.6, .bool p.6.7, .int .i64 p.7, .string p.8, .string p.9, .int .i64 K0] _ _ hr2
   have hH3 := below_setRow hH2 hg2 (g := g2) #[.slice A n c, .int .i64 p.1, .string p.2, .string p.3, .string p.4, .string p.5, .int .i64 p.6.1, .string p.6.2, .string p.6.3, .string p.6.4, .string p.6.5, .string p.6.6, .bool p.6.7, .int .i64 p.7, .string p.8, .string p.9, .int .i64 K0]
   refine hK.out _ _ (Or.inr hH3) ?_
   clear hK K
   try simp only [Act.put, pu1, pu2, pu3, pu4, pu5, pu6]
   refine dnY ?_
   go_wp2_with fail
   go_meet
   case rel => exact ⟨g2, rfl, hg2, hr3, hH3⟩
 case rest =>
  obtain ⟨b6, rfl, hb6, r6, hbw⟩ := hcut
  rename World => wq
  have hS4 := HSK.out _ hbw
  have hb4 := bnext hb3 hbw
  clear hbw HSK hS3 hb3
  have hst := store_new (ty := 71) (T := 71) wq #[.nilFunc, .nilFunc, .nilFunc, .nilFunc, .nilFunc, .nilFunc, .nilFunc, .nilFunc] #[.nilFunc, .func (.func 26) #[] #[], .func (.func 27) #[] #[], .func (.func 28) #[] #[], .func (.func 29) #[] #[], .func (.func 30) #[] #[], .func (.func 30) #[] #[], .func (.func 31) #[] #[]] (by kernel_rfl) rfl (by decide +kernel)
  have hb6q := lt_of_block r6
  go_upto_region 5 with (fail)
  clear hst
  have hbn := Below.news (Below.refl wq.heap.size wq) (.cells #[.nilFunc, .func (.func 26) #[] #[], .func (.func 27) #[] #[], .func (.func 28) #[] #[], .func (.func 29) #[] #[], .func (.func 30) #[] #[], .func (.func 30) #[] #[], .func (.func 31) #[] #[]] 71)
  have r7 := heap_alloc_new wq (.cells #[.nilFunc, .func (.func 26) #[] #[], .func (.func 27) #[] #[], .func (.func 28) #[] #[], .func (.func 29) #[] #[], .func (.func 30) #[] #[], .func (.func 30) #[] #[], .func (.func 31) #[] #[]] 71)
  have hS5 := hS4.below hbn
  have r65 := iNext r6 hbn
  have hb5 := bnext hb4 hbn
  clear hbn hS4 r6 hb4
  obtain ⟨b7, hb7⟩ : ∃ b7, b7 = wq.heap.size := ⟨_, rfl⟩
  rw [← hb7] at r7 hb6q ⊢
  have HB7 := hide hb7
  clear hb7
  generalize wq.alloc (.cells #[.nilFunc, .func (.func 26) #[] #[], .func (.func 27) #[] #[], .func (.func 28) #[] #[], .func (.func 29) #[] #[], .func (.func 30) #[] #[], .func (.func 30) #[] #[], .func (.func 31) #[] #[]] 71) = w5 at *
  clear HB7
  have c0 := (jC15 hS5.r2).1
  have k1 := (jC15 hS5.r2).2.1
  have hL6 := hide (range_of r65 0 [.slice A n c, .int .i64 p.1, .string p.2, .string p.3, .string p.4, .string p.5, .int .i64 p.6.1, .string p.6.2, .string p.6.3, .string p.6.4, .string p.6.5, .string p.6.6, .bool p.6.7, .int .i64 p.7, .string p.8, .string p.9, .int .i64 K0] rfl)
  go_wp2_with (with_reducible refine wpList_load_mid rfl 68 (.tmp 6) rfl b6 0 rfl _ _ hL6.out Try.underlying68 rfl (by kernel_rfl) ?_)
  refine (item_of l A n c HL.out hn p K0 p.id w5 hS5.its y HY.out).mono ?_
  rintro e w6 ⟨rfl, hbq⟩
  clear hL6 k1 c0
  have hS6 := hS5.below hbq
  have r66 := iNext r65 hbq
  have r76 := iNext r7 hbq
  have hb6' := bnext hb5 hbq
  clear hbq hS5 r65 r7 hb5
  have hst := store_new (ty := 37) (T := 37) w6 #[.int .i64 0, .string ⟨#[]⟩, .string ⟨#[]⟩, .string ⟨#[]⟩, .string ⟨#[]⟩, .string ⟨#[]⟩, .bool false] #[.int .i64 y.1, .string y.2, .string y.3, .string y.4, .string y.5, .string y.6, .bool y.7] (by kernel_rfl) rfl (all_oneCell_toArray (iLay.one y))
  go_upto_region 7 with (fail)
  clear hst
  have hbn := Below.news (Below.refl w6.heap.size w6) (.cells #[.int .i64 y.1, .string y.2, .string y.3, .string y.4, .string y.5, .string y.6, .bool y.7] 37)
  have r8 := heap_alloc_new w6 (.cells #[.int .i64 y.1, .string y.2, .string y.3, .string y.4, .string y.5, .string y.6, .bool y.7] 37)
  have hS7 := hS6.below hbn
  have r67 := iNext r66 hbn
  have r77 := iNext r76 hbn
  have hb7' := bnext hb6' hbn
  clear hbn hS6 r66 r76 hb6'
  obtain ⟨b8, hb8⟩ : ∃ b8, b8 = w6.heap.size := ⟨_, rfl⟩
  rw [← hb8] at r8 ⊢
  have HB8 := hide hb8
  clear hb8
  generalize w6.alloc (.cells #[.int .i64 y.1, .string y.2, .string y.3, .string y.4, .string y.5, .string y.6, .bool y.7] 37) = w7 at *
  clear HB8
  have c0 := (jC15 hS7.r2).1
  obtain ⟨z0, z1, z2, z3, z4, z5, z6⟩ := iCells r8
  clear z1 z2 z3 z4 z5
  have yg := YG.out
  clear YG
  have hsz7 := lt_of_block hS7.r3
  have hst := store_part (ty := 24) w7 (w.heap.size + 1 + 1) 0 #[.slice none 0 0] (.agg #[.slice none 0 0]) #[.slice none 0 0] hS7.r3 infoCode1 (Nat.le_refl _) (one_code _ _ _) rfl
  have r25 := setRow_heap w7 (w.heap.size + 1 + 1) _ #[.slice none 0 0] _ _ hS7.r3
  have hb8 := below_setRow hb7' (by omega) (g := w.heap.size + 1 + 1) #[.slice none 0 0]
  go_wp2
  refine bodyPost_ret (results_c8 Try.results11 _ _ (w.heap.size + 1 + 1) 24 #[.slice none 0 0] (0, 0) _ rfl r25 Try.underlying24 (by kernel_rfl)) rfl (ApR.err rfl hb8)
set_option maxRecDepth 100000 in
set_option maxHeartbeats 8000000 in
attribute [-go_sem] Instr.storeAt in
theorem apply_gone (l : List Dg.It) (A : Option Addr) (n c : Nat) (hl : l.length = n) (hn : n ≤ 1048576) (hw : ∀ x ∈ l, ItW x) (p : Dg.Pt) (hp : PtW p) (h2 : p.kind ≠ 2) (hv : Dg.validC l = true) (y : Dg.It) (hy : Dg.itemA l p.id = y) (hf : Dg.formedP p = true) (k1 : (p.kind != 1) = true) (y0 : (y.kind == 0) = false) (y1 : (y.kind == 1) = false) (k6 : (p.kind == 6) = false) (k6n : (p.kind != 6) = true) (yg : y.gone = true)  (w : World) (hI : Its w w.heap.size A l) :
  Calls Try.prog 11 #[.agg #[.slice A n c], .agg #[.int .i64 p.1, .string p.2, .string p.3, .string p.4, .string p.5, .int .i64 p.6.1, .string p.6.2, .string p.6.3, .string p.6.4, .string p.6.5, .string p.6.6, .bool p.6.7, .int .i64 p.7, .string p.8, .string p.9]] w (ApR ([], 16) w) := by
 obtain ⟨r1, r2, r3, hb1, hs⟩ := iAlloc3 w (.cells #[.slice A n c] 24) (.cells #[.int .i64 p.1, .string p.2, .string p.3, .string p.4, .string p.5, .int .i64 p.6.1, .string p.6.2, .string p.6.3, .string p.6.4, .string p.6.5, .string p.6.6, .bool p.6.7, .int .i64 p.7, .string p.8, .string p.9] 39) (.cells #[.slice none 0 0] 24)
 have hS1 : ApS w.heap.size A n c l p (((w.alloc (.cells #[.slice A n c] 24)).alloc (.cells #[.int .i64 p.1, .string p.2, .string p.3, .string p.4, .string p.5, .int .i64 p.6.1, .string p.6.2, .string p.6.3, .string p.6.4, .string p.6.5, .string p.6.6, .bool p.6.7, .int .i64 p.7, .string p.8, .string p.9] 39)).alloc (.cells #[.slice none 0 0] 24)) := ⟨r1, r2, r3, hI.keep hb1⟩
 have hmx : Try.prog.follows .mixedOrders = true := by kernel_rfl
 have HS := hide hs; have HL := hide hl; have HW := hide hw; have HP := hide hp; have H2 := hide h2; have HV := hide hv
 clear r1 r2 r3 hs hI hl hw hp h2 hv
 have HF := hide hf
 clear hf
 have HY := hide hy
 clear hy
 have YG := hide yg
 clear yg
 have c1 := iCells0 hS1.r1
 go_enter Try.func11, Try.ntmps11
 go_wp2_with fail
 generalize ((w.alloc (.cells #[.slice A n c] 24)).alloc (.cells #[.int .i64 p.1, .string p.2, .string p.3, .string p.4, .string p.5, .int .i64 p.6.1, .string p.6.2, .string p.6.3, .string p.6.4, .string p.6.5, .string p.6.6, .bool p.6.7, .int .i64 p.7, .string p.8, .string p.9] 39)).alloc (.cells #[.slice none 0 0] 24) = w1 at *
 refine (Code.valid_of l A n c HL.out HW.out hn w1 hS1.its true HV.out).mono ?_
 rintro e w2 ⟨rfl, hbq⟩
 have hS2 := hS1.below hbq
 have hb2 := bnext hb1 hbq
 have hsz : w.heap.size + 3 ≤ w2.heap.size := by have := hbq.size; have := HS.out; omega
 clear hbq hS1 hb1 c1 HS
 have hL2 := hide (range_of hS2.r2 0 [.int .i64 p.1, .string p.2, .string p.3, .string p.4, .string p.5, .int .i64 p.6.1, .string p.6.2, .string p.6.3, .string p.6.4, .string p.6.5, .string p.6.6, .bool p.6.7, .int .i64 p.7, .string p.8, .string p.9] rfl)
 go_wp2_with (refine wpList_load_midW 39 (.tmp 3) rfl (by rfl) (w.heap.size + 1) 0 rfl _ _ hL2.out Try.underlying39 rfl (by kernel_rfl) ?_)
 clear hL2
 refine (formed_of p HP.out H2.out true HF.out w2).mono ?_
 rintro e w3 ⟨rfl, hbq⟩
 have hS3 := hS2.below hbq
 have hb3 := bnext hb2 hbq
 have hsz3 : w.heap.size + 3 ≤ w3.heap.size := by have := hbq.size; omega
 clear hbq hS2 hb2 hsz
 obtain ⟨K0, hK0⟩ : ∃ K, findX l p.id = K := ⟨_, rfl⟩
 have HK0 := hide hK0
 clear hK0
 have HSK := hide (fun X (hX : Below w3.heap.size w3 X) => hS3.below hX)
 go_upto_region 3 with (fail)
 go_cut [6] from 18 to 24 (fun v6 wx => ∃ b6 : Nat, v6 = .pointer (some ⟨b6, 0, none⟩) ∧ w3.heap.size ≤ b6 ∧ wx.heap[b6]? = some (.cells #[.slice A n c, .int .i64 p.1, .string p.2, .string p.3, .string p.4, .string p.5, .int .i64 p.6.1, .string p.6.2, .string p.6.3, .string p.6.4, .string p.6.5, .string p.6.6, .bool p.6.7, .int .i64 p.7, .string p.8, .string p.9, .int .i64 K0] 68 (0, 0)) ∧ Below w3.heap.size w3 wx)
 case first =>
  refine wp_region_noPanic ?_
  refine wp_region_L (Below w3.heap.size w3) 9 hmx ?_
  have hH0 : (Below w3.heap.size w3) w3.drew := (Below.refl w3.heap.size w3).drew
  generalize w3.drew = u0 at *
  refine tkY 0 11 ?_ rfl ?_ hH0 ?_
  rotate_left
  ·intro wS hS; have c1 := iCells0 (HSK.out _ hS).r1; go_simp; (try with_reducible rfl)
  simp only [Act.put, pu1, pu2, pu3, pu4, pu5, pu6]
  refine tkV 1 11 (.agg #[.int .i64 p.1, .string p.2, .string p.3, .string p.4, .string p.5, .int .i64 p.6.1, .string p.6.2, .string p.6.3, .string p.6.4, .string p.6.5, .string p.6.6, .bool p.6.7, .int .i64 p.7, .string p.8, .string p.9]) rfl (by exact yieldsIf_load_mid (by rfl) 39 (.tmp 3) rfl (w.heap.size + 1) 0 rfl [.int .i64 p.1, .string p.2, .string p.3, .string p.4, .string p.5, .int .i64 p.6.1, .string p.6.2, .string p.6.3, .string p.6.4, .string p.6.5, .string p.6.6, .bool p.6.7, .int .i64 p.7, .string p.8, .string p.9] _ (fun X hX => range_of (HSK.out X hX).r2 0 [.int .i64 p.1, .string p.2, .string p.3, .string p.4, .string p.5, .int .i64 p.6.1, .string p.6.2, .string p.6.3, .string p.6.4, .string p.6.5, .string p.6.6, .bool p.6.7, .int .i64 p.7, .string p.8, .string p.9] rfl) Try.underlying39 rfl (by kernel_rfl)) hH0 ?_
  simp only [Act.put, pu1, pu2, pu3, pu4, pu5, pu6]
  refine tkY 2 11 ?_ rfl ?_ hH0 ?_
  rotate_left
  ·intro wS hS; have c1 := iCells0 (HSK.out _ hS).r1; go_simp; (try with_reducible rfl)
  simp only [Act.put, pu1, pu2, pu3, pu4, pu5, pu6]
  refine tkY 3 11 ?_ rfl ?_ hH0 ?_
  rotate_left
  ·intro wS hS; go_simp; (try with_reducible rfl)
  simp only [Act.put, pu1, pu2, pu3, pu4, pu5, pu6]
  refine tkY 4 11 ?_ rfl ?_ hH0 ?_
  rotate_left
  ·intro wS hS; have k1 := (jC15 (HSK.out _ hS).r2).2.1; go_simp; (try with_reducible rfl)
  simp only [Act.put, pu1, pu2, pu3, pu4, pu5, pu6]
  refine wpAnyL_duo (i := 5) (j := 7) (by decide +kernel) (by rfl) (by rfl) (fun K hK => ?_) (fun K hK => ?_)
  ·rw [if_pos (by rfl)]
   go_simp
   refine (Code.find_of l A n c HL.out hn p.id u0 (HSK.out _ hH0).its K0 HK0.out).mono ?_
   rintro e u1 ⟨rfl, hx1⟩
   have hH1 := hH0.trans (hx1.mono hH0.size)
   refine hK.out _ _ (Or.inr hH1) ?_
   clear hK K hx1
   try simp only [Act.put, pu1, pu2, pu3, pu4, pu5, pu6]
   refine tkY 6 11 ?_ rfl ?_ hH1 ?_
   rotate_left
   ·intro wS hS; go_simp; (try with_reducible rfl)
   simp only [Act.put, pu1, pu2, pu3, pu4, pu5, pu6]
   refine onY 7 (by rfl) fun K hK => ?_
   go_simp
   have hx2 := Below.news (Below.refl u1.heap.size u1) (.cells #[.slice none 0 0, .int .i64 0, .string ⟨#[]⟩, .string ⟨#[]⟩, .string ⟨#[]⟩, .string ⟨#[]⟩, .int .i64 0, .string ⟨#[]⟩, .string ⟨#[]⟩, .string ⟨#[]⟩, .string ⟨#[]⟩, .string ⟨#[]⟩, .bool false, .int .i64 0, .string ⟨#[]⟩, .string ⟨#[]⟩, .int .i64 0] 68)
   have hr2 := heap_alloc_new u1 (.cells #[.slice none 0 0, .int .i64 0, .string ⟨#[]⟩, .string ⟨#[]⟩, .string ⟨#[]⟩, .string ⟨#[]⟩, .int .i64 0, .string ⟨#[]⟩, .string ⟨#[]⟩, .string ⟨#[]⟩, .string ⟨#[]⟩, .string ⟨#[]⟩, .bool false, .int .i64 0, .string ⟨#[]⟩, .string ⟨#[]⟩, .int .i64 0] 68)
   have hg2 : w3.heap.size ≤ u1.heap.size := hH1.size
   have hH2 := hH1.trans (hx2.mono hH1.size)
   refine hK.out _ _ (Or.inr hH2) ?_
   clear hK K hx2
   try simp only [Act.put, pu1, pu2, pu3, pu4, pu5, pu6]
   generalize u1.alloc (.cells #[.slice none 0 0, .int .i64 0, .string ⟨#[]⟩, .string ⟨#[]⟩, .string ⟨#[]⟩, .string ⟨#[]⟩, .int .i64 0, .string ⟨#[]⟩, .string ⟨#[]⟩, .string ⟨#[]⟩, .string ⟨#[]⟩, .string ⟨#[]⟩, .bool false, .int .i64 0, .string ⟨#[]⟩, .string ⟨#[]⟩, .int .i64 0] 68) = u2 at *
   generalize u1.heap.size = g2 at *
   refine onY 8 (by rfl) fun K hK => ?_
   have hst := store_part (ty := 68) u2 g2 0 #[.slice none 0 0, .int .i64 0, .string ⟨#[]⟩, .string ⟨#[]⟩, .string ⟨#[]⟩, .string ⟨#[]⟩, .int .i64 0, .string ⟨#[]⟩, .string ⟨#[]⟩, .string ⟨#[]⟩, .string ⟨#[]⟩, .string ⟨#[]⟩, .bool false, .int .i64 0, .string ⟨#[]⟩, .string ⟨#[]⟩, .int .i64 0] (.agg #[.slice A n c, .int .i64 p.1, .string p.2, .string p.3, .string p.4, .string p.5, .int .i64 p.6.1, .string p.6.2, .string p.6.3, .string p.6.4, .string p.6.5, .string p.6.6, .bool p.6.7, .int .i64 p.7, .string p.8, .string p.9, .int .i64 K0]) #[.slice A n c, .int .i64 p.1, .string p.2, .string p.3, .string p.4, .string p.5, .int .i64 p.6.1, .string p.6.2, .string p.6.3, .string p.6.4, .string p.6.5, .string p.6.6, .bool p.6.7, .int .i64 p.7, .string p.8, .string p.9, .int .i64 K0] hr2 infoCh17 (Nat.le_refl _) (one_change A n c p K0) rfl
   go_simp
   clear hst
   have hr3 := setRow_heap u2 g2 _ #[.slice A n c, .int .i64 p.1, .string p.2, .string p.3, .string p.4, .string p.5, .int .i64 p.6.1, .string p.6.2, .string p.6.3, .string p.6.4, .string p.6.5, .string p.6.6, .bool p.6.7, .int .i64 p.7, .string p.8, .string p.9, .int .i64 K0] _ _ hr2
   have hH3 := below_setRow hH2 hg2 (g := g2) #[.slice A n c, .int .i64 p.1, .string p.2, .string p.3, .string p.4, .string p.5, .int .i64 p.6.1, .string p.6.2, .string p.6.3, .string p.6.4, .string p.6.5, .string p.6.6, .bool p.6.7, .int .i64 p.7, .string p.8, .string p.9, .int .i64 K0]
   refine hK.out _ _ (Or.inr hH3) ?_
   clear hK K
   try simp only [Act.put, pu1, pu2, pu3, pu4, pu5, pu6]
   refine dnY ?_
   go_wp2_with fail
   go_meet
   case rel => exact ⟨g2, rfl, hg2, hr3, hH3⟩
  ·rw [if_pos (by rfl)]
   go_simp
   have hx2 := Below.news (Below.refl u0.heap.size u0) (.cells #[.slice none 0 0, .int .i64 0, .string ⟨#[]⟩, .string ⟨#[]⟩, .string ⟨#[]⟩, .string ⟨#[]⟩, .int .i64 0, .string ⟨#[]⟩, .string ⟨#[]⟩, .string ⟨#[]⟩, .string ⟨#[]⟩, .string ⟨#[]⟩, .bool false, .int .i64 0, .string ⟨#[]⟩, .string ⟨#[]⟩, .int .i64 0] 68)
   have hr1 := heap_alloc_new u0 (.cells #[.slice none 0 0, .int .i64 0, .string ⟨#[]⟩, .string ⟨#[]⟩, .string ⟨#[]⟩, .string ⟨#[]⟩, .int .i64 0, .string ⟨#[]⟩, .string ⟨#[]⟩, .string ⟨#[]⟩, .string ⟨#[]⟩, .string ⟨#[]⟩, .bool false, .int .i64 0, .string ⟨#[]⟩, .string ⟨#[]⟩, .int .i64 0] 68)
   have hg2 : w3.heap.size ≤ u0.heap.size := hH0.size
   have hH1 := hH0.trans (hx2.mono hH0.size)
   refine hK.out _ _ (Or.inr hH1) ?_
   clear hK K hx2
   try simp only [Act.put, pu1, pu2, pu3, pu4, pu5, pu6]
   generalize u0.alloc (.cells #[.slice none 0 0, .int .i64 0, .string ⟨#[]⟩, .string ⟨#[]⟩, .string ⟨#[]⟩, .string ⟨#[]⟩, .int .i64 0, .string ⟨#[]⟩, .string ⟨#[]⟩, .string ⟨#[]⟩, .string ⟨#[]⟩, .string ⟨#[]⟩, .bool false, .int .i64 0, .string ⟨#[]⟩, .string ⟨#[]⟩, .int .i64 0] 68) = u1 at *
   generalize u0.heap.size = g2 at *
   refine onY 5 (by rfl) fun K hK => ?_
   go_simp
   refine (Code.find_of l A n c HL.out hn p.id u1 (HSK.out _ hH1).its K0 HK0.out).mono ?_
   rintro e u2 ⟨rfl, hx1⟩
   have hH2 := hH1.trans (hx1.mono hH1.size)
   have hr2 := iNext hr1 hx1
   refine hK.out _ _ (Or.inr hH2) ?_
   clear hK K hx1
   try simp only [Act.put, pu1, pu2, pu3, pu4, pu5, pu6]
   refine tkY 6 11 ?_ rfl ?_ hH2 ?_
   rotate_left
   ·intro wS hS; go_simp; (try with_reducible rfl)
   simp only [Act.put, pu1, pu2, pu3, pu4, pu5, pu6]
   refine onY 8 (by rfl) fun K hK => ?_
   have hst := store_part (ty := 68) u2 g2 0 #[.slice none 0 0, .int .i64 0, .string ⟨#[]⟩, .string ⟨#[]⟩, .string ⟨#[]⟩, .string ⟨#[]⟩, .int .i64 0, .string ⟨#[]⟩, .string ⟨#[]⟩, .string ⟨#[]⟩, .string ⟨#[]⟩, .string ⟨#[]⟩, .bool false, .int .i64 0, .string ⟨#[]⟩, .string ⟨#[]⟩, .int .i64 0] (.agg #[.slice A n c, .int .i64 p.1, .string p.2, .string p.3, .string p.4, .string p.5, .int .i64 p.6.1, .string p.6.2, .string p.6.3, .string p.6.4, .string p.6.5, .string p.6.6, .bool p.6.7, .int .i64 p.7, .string p.8, .string p.9, .int .i64 K0]) #[.slice A n c, .int .i64 p.1, .string p.2, .string p.3, .string p.4, .string p.5, .int .i64 p.6.1, .string p.6.2, .string p.6.3, .string p.6.4, .string p.6.5, .string p.6.6, .bool p.6.7, .int .i64 p.7, .string p.8, .string p.9, .int .i64 K0] hr2 infoCh17 (Nat.le_refl _) (one_change A n c p K0) rfl
   go_simp
   clear hst
   have hr3 := setRow_heap u2 g2 _ #[.slice A n c, .int .i64 p.1, .string p.2, .string p.3, .string p.4, .string p.5, .int .i64 p.6.1, .string p.6.2, .string p.6.3, .string p.6.4, .string p.6.5, .string p.6.6, .bool p.6.7, .int .i64 p.7, .string p.8, .string p.9, .int .i64 K0] _ _ hr2
   have hH3 := below_setRow hH2 hg2 (g := g2) #[.slice A n c, .int .i64 p.1, .string p.2, .string p.3, .string p.4, .string p.5, .int .i64 p.6.1, .string p.6.2, .string p.6.3, .string p.6.4, .string p.6.5, .string p.6.6, .bool p.6.7, .int .i64 p.7, .string p.8, .string p.9, .int .i64 K0]
   refine hK.out _ _ (Or.inr hH3) ?_
   clear hK K
   try simp only [Act.put, pu1, pu2, pu3, pu4, pu5, pu6]
   refine dnY ?_
   go_wp2_with fail
   go_meet
   case rel => exact ⟨g2, rfl, hg2, hr3, hH3⟩
 case rest =>
  obtain ⟨b6, rfl, hb6, r6, hbw⟩ := hcut
  rename World => wq
  have hS4 := HSK.out _ hbw
  have hb4 := bnext hb3 hbw
  clear hbw HSK hS3 hb3
  have hst := store_new (ty := 71) (T := 71) wq #[.nilFunc, .nilFunc, .nilFunc, .nilFunc, .nilFunc, .nilFunc, .nilFunc, .nilFunc] #[.nilFunc, .func (.func 26) #[] #[], .func (.func 27) #[] #[], .func (.func 28) #[] #[], .func (.func 29) #[] #[], .func (.func 30) #[] #[], .func (.func 30) #[] #[], .func (.func 31) #[] #[]] (by kernel_rfl) rfl (by decide +kernel)
  have hb6q := lt_of_block r6
  go_upto_region 5 with (fail)
  clear hst
  have hbn := Below.news (Below.refl wq.heap.size wq) (.cells #[.nilFunc, .func (.func 26) #[] #[], .func (.func 27) #[] #[], .func (.func 28) #[] #[], .func (.func 29) #[] #[], .func (.func 30) #[] #[], .func (.func 30) #[] #[], .func (.func 31) #[] #[]] 71)
  have r7 := heap_alloc_new wq (.cells #[.nilFunc, .func (.func 26) #[] #[], .func (.func 27) #[] #[], .func (.func 28) #[] #[], .func (.func 29) #[] #[], .func (.func 30) #[] #[], .func (.func 30) #[] #[], .func (.func 31) #[] #[]] 71)
  have hS5 := hS4.below hbn
  have r65 := iNext r6 hbn
  have hb5 := bnext hb4 hbn
  clear hbn hS4 r6 hb4
  obtain ⟨b7, hb7⟩ : ∃ b7, b7 = wq.heap.size := ⟨_, rfl⟩
  rw [← hb7] at r7 hb6q ⊢
  have HB7 := hide hb7
  clear hb7
  generalize wq.alloc (.cells #[.nilFunc, .func (.func 26) #[] #[], .func (.func 27) #[] #[], .func (.func 28) #[] #[], .func (.func 29) #[] #[], .func (.func 30) #[] #[], .func (.func 30) #[] #[], .func (.func 31) #[] #[]] 71) = w5 at *
  clear HB7
  have c0 := (jC15 hS5.r2).1
  have k1 := (jC15 hS5.r2).2.1
  have hL6 := hide (range_of r65 0 [.slice A n c, .int .i64 p.1, .string p.2, .string p.3, .string p.4, .string p.5, .int .i64 p.6.1, .string p.6.2, .string p.6.3, .string p.6.4, .string p.6.5, .string p.6.6, .bool p.6.7, .int .i64 p.7, .string p.8, .string p.9, .int .i64 K0] rfl)
  go_wp2_with (with_reducible refine wpList_load_mid rfl 68 (.tmp 6) rfl b6 0 rfl _ _ hL6.out Try.underlying68 rfl (by kernel_rfl) ?_)
  refine (item_of l A n c HL.out hn p K0 p.id w5 hS5.its y HY.out).mono ?_
  rintro e w6 ⟨rfl, hbq⟩
  clear hL6 k1 c0
  have hS6 := hS5.below hbq
  have r66 := iNext r65 hbq
  have r76 := iNext r7 hbq
  have hb6' := bnext hb5 hbq
  clear hbq hS5 r65 r7 hb5
  have hst := store_new (ty := 37) (T := 37) w6 #[.int .i64 0, .string ⟨#[]⟩, .string ⟨#[]⟩, .string ⟨#[]⟩, .string ⟨#[]⟩, .string ⟨#[]⟩, .bool false] #[.int .i64 y.1, .string y.2, .string y.3, .string y.4, .string y.5, .string y.6, .bool y.7] (by kernel_rfl) rfl (all_oneCell_toArray (iLay.one y))
  go_upto_region 7 with (fail)
  clear hst
  have hbn := Below.news (Below.refl w6.heap.size w6) (.cells #[.int .i64 y.1, .string y.2, .string y.3, .string y.4, .string y.5, .string y.6, .bool y.7] 37)
  have r8 := heap_alloc_new w6 (.cells #[.int .i64 y.1, .string y.2, .string y.3, .string y.4, .string y.5, .string y.6, .bool y.7] 37)
  have hS7 := hS6.below hbn
  have r67 := iNext r66 hbn
  have r77 := iNext r76 hbn
  have hb7' := bnext hb6' hbn
  clear hbn hS6 r66 r76 hb6'
  obtain ⟨b8, hb8⟩ : ∃ b8, b8 = w6.heap.size := ⟨_, rfl⟩
  rw [← hb8] at r8 ⊢
  have HB8 := hide hb8
  clear hb8
  generalize w6.alloc (.cells #[.int .i64 y.1, .string y.2, .string y.3, .string y.4, .string y.5, .string y.6, .bool y.7] 37) = w7 at *
  clear HB8
  have c0 := (jC15 hS7.r2).1
  obtain ⟨z0, z1, z2, z3, z4, z5, z6⟩ := iCells r8
  clear z1 z2 z3 z4 z5
  have yg := YG.out
  clear YG
  have hsz7 := lt_of_block hS7.r3
  have hst := store_part (ty := 24) w7 (w.heap.size + 1 + 1) 0 #[.slice none 0 0] (.agg #[.slice none 0 0]) #[.slice none 0 0] hS7.r3 infoCode1 (Nat.le_refl _) (one_code _ _ _) rfl
  have r25 := setRow_heap w7 (w.heap.size + 1 + 1) _ #[.slice none 0 0] _ _ hS7.r3
  have hb8 := below_setRow hb7' (by omega) (g := w.heap.size + 1 + 1) #[.slice none 0 0]
  go_wp2
  refine bodyPost_ret (results_c8 Try.results11 _ _ (w.heap.size + 1 + 1) 24 #[.slice none 0 0] (0, 0) _ rfl r25 Try.underlying24 (by kernel_rfl)) rfl (ApR.err rfl hb8)
end Go.Proofs.Ytgmimhgeigbpkaa
/- Apply of package patch: numbers, repeals. No conditions but those that each theorem states. -/
namespace Go.Proofs.Ytgmimhgeigbpkaa
open Go Go.RowKit Go.Sort Go.Maps
set_option maxRecDepth 100000 in
set_option maxHeartbeats 8000000 in
attribute [-go_sem] Instr.storeAt in
theorem apply_number (l : List Dg.It) (A : Option Addr) (n c : Nat) (hl : l.length = n) (hn : n ≤ 1048576) (hw : ∀ x ∈ l, ItW x) (p : Dg.Pt) (hp : PtW p) (h2 : p.kind ≠ 2) (hv : Dg.validC l = true) (y : Dg.It) (hy : Dg.itemA l p.id = y) (hf : Dg.formedP p = true) (i : Nat) (hi : Dg.idxI l p.id = some i) (hk : p.kind = 3) (y0 : (y.kind == 0) = false) (yg : y.gone = false)  (w : World) (hI : Its w w.heap.size A l) :
  Calls Try.prog 11 #[.agg #[.slice A n c], .agg #[.int .i64 p.1, .string p.2, .string p.3, .string p.4, .string p.5, .int .i64 p.6.1, .string p.6.2, .string p.6.3, .string p.6.4, .string p.6.5, .string p.6.6, .bool p.6.7, .int .i64 p.7, .string p.8, .string p.9]] w (ApR (l.set i { y with number := p.number }, 0) w) := by
 obtain ⟨r1, r2, r3, hb1, hs⟩ := iAlloc3 w (.cells #[.slice A n c] 24) (.cells #[.int .i64 p.1, .string p.2, .string p.3, .string p.4, .string p.5, .int .i64 p.6.1, .string p.6.2, .string p.6.3, .string p.6.4, .string p.6.5, .string p.6.6, .bool p.6.7, .int .i64 p.7, .string p.8, .string p.9] 39) (.cells #[.slice none 0 0] 24)
 have hS1 : ApS w.heap.size A n c l p (((w.alloc (.cells #[.slice A n c] 24)).alloc (.cells #[.int .i64 p.1, .string p.2, .string p.3, .string p.4, .string p.5, .int .i64 p.6.1, .string p.6.2, .string p.6.3, .string p.6.4, .string p.6.5, .string p.6.6, .bool p.6.7, .int .i64 p.7, .string p.8, .string p.9] 39)).alloc (.cells #[.slice none 0 0] 24)) := ⟨r1, r2, r3, hI.keep hb1⟩
 have hmx : Try.prog.follows .mixedOrders = true := by kernel_rfl
 have HK := hide hk
 have k1 : (p.kind != 1) = true := by rw [hk]; rfl
 have k3 : (p.kind != 3) = false := by rw [hk]; rfl
 have k6 : (p.kind == 6) = false := by rw [hk]; rfl
 have k6n : (p.kind != 6) = true := by rw [hk]; rfl
 have hil : i < n := by obtain ⟨h, _⟩ := Dg.idxI_some hi; omega
 have hyi : l.getD i Dg.zeroI = y := by rw [← hy]; unfold Dg.itemA; rw [hi]
 have HK0 := hide (findX_idx hi); have HIX := hide hi; have HYI := hide hyi; have HY := hide hy; have YG := hide yg
 clear hk hyi hi hy yg
 have HS := hide hs; have HL := hide hl; have HW := hide hw; have HP := hide hp; have H2 := hide h2; have HV := hide hv
 clear r1 r2 r3 hs hI hl hw hp h2 hv
 have HF := hide hf
 clear hf
 have c1 := iCells0 hS1.r1
 go_enter Try.func11, Try.ntmps11
 go_wp2_with fail
 generalize ((w.alloc (.cells #[.slice A n c] 24)).alloc (.cells #[.int .i64 p.1, .string p.2, .string p.3, .string p.4, .string p.5, .int .i64 p.6.1, .string p.6.2, .string p.6.3, .string p.6.4, .string p.6.5, .string p.6.6, .bool p.6.7, .int .i64 p.7, .string p.8, .string p.9] 39)).alloc (.cells #[.slice none 0 0] 24) = w1 at *
 refine (Code.valid_of l A n c HL.out HW.out hn w1 hS1.its true HV.out).mono ?_
 rintro e w2 ⟨rfl, hbq⟩
 have hS2 := hS1.below hbq
 have hb2 := bnext hb1 hbq
 have hsz : w.heap.size + 3 ≤ w2.heap.size := by have := hbq.size; have := HS.out; omega
 clear hbq hS1 hb1 c1 HS
 have hL2 := hide (range_of hS2.r2 0 [.int .i64 p.1, .string p.2, .string p.3, .string p.4, .string p.5, .int .i64 p.6.1, .string p.6.2, .string p.6.3, .string p.6.4, .string p.6.5, .string p.6.6, .bool p.6.7, .int .i64 p.7, .string p.8, .string p.9] rfl)
 go_wp2_with (refine wpList_load_midW 39 (.tmp 3) rfl (by rfl) (w.heap.size + 1) 0 rfl _ _ hL2.out Try.underlying39 rfl (by kernel_rfl) ?_)
 clear hL2
 refine (formed_of p HP.out H2.out true HF.out w2).mono ?_
 rintro e w3 ⟨rfl, hbq⟩
 have hS3 := hS2.below hbq
 have hb3 := bnext hb2 hbq
 have hsz3 : w.heap.size + 3 ≤ w3.heap.size := by have := hbq.size; omega
 clear hbq hS2 hb2 hsz
 have HSK := hide (fun X (hX : Below w3.heap.size w3 X) => hS3.below hX)
 go_upto_region 3 with (fail)
 go_cut [6] from 18 to 24 (fun v6 wx => ∃ b6 : Nat, v6 = .pointer (some ⟨b6, 0, none⟩) ∧ w3.heap.size ≤ b6 ∧ wx.heap[b6]? = some (.cells #[.slice A n c, .int .i64 p.1, .string p.2, .string p.3, .string p.4, .string p.5, .int .i64 p.6.1, .string p.6.2, .string p.6.3, .string p.6.4, .string p.6.5, .string p.6.6, .bool p.6.7, .int .i64 p.7, .string p.8, .string p.9, .int .i64 i] 68 (0, 0)) ∧ Below w3.heap.size w3 wx)
 case first =>
  refine wp_region_noPanic ?_
  refine wp_region_L (Below w3.heap.size w3) 9 hmx ?_
  have hH0 : (Below w3.heap.size w3) w3.drew := (Below.refl w3.heap.size w3).drew
  generalize w3.drew = u0 at *
  refine tkY 0 11 ?_ rfl ?_ hH0 ?_
  rotate_left
  ·intro wS hS; have c1 := iCells0 (HSK.out _ hS).r1; go_simp; (try with_reducible rfl)
  simp only [Act.put, pu1, pu2, pu3, pu4, pu5, pu6]
  refine tkV 1 11 (.agg #[.int .i64 p.1, .string p.2, .string p.3, .string p.4, .string p.5, .int .i64 p.6.1, .string p.6.2, .string p.6.3, .string p.6.4, .string p.6.5, .string p.6.6, .bool p.6.7, .int .i64 p.7, .string p.8, .string p.9]) rfl (by exact yieldsIf_load_mid (by rfl) 39 (.tmp 3) rfl (w.heap.size + 1) 0 rfl [.int .i64 p.1, .string p.2, .string p.3, .string p.4, .string p.5, .int .i64 p.6.1, .string p.6.2, .string p.6.3, .string p.6.4, .string p.6.5, .string p.6.6, .bool p.6.7, .int .i64 p.7, .string p.8, .string p.9] _ (fun X hX => range_of (HSK.out X hX).r2 0 [.int .i64 p.1, .string p.2, .string p.3, .string p.4, .string p.5, .int .i64 p.6.1, .string p.6.2, .string p.6.3, .string p.6.4, .string p.6.5, .string p.6.6, .bool p.6.7, .int .i64 p.7, .string p.8, .string p.9] rfl) Try.underlying39 rfl (by kernel_rfl)) hH0 ?_
  simp only [Act.put, pu1, pu2, pu3, pu4, pu5, pu6]
  refine tkY 2 11 ?_ rfl ?_ hH0 ?_
  rotate_left
  ·intro wS hS; have c1 := iCells0 (HSK.out _ hS).r1; go_simp; (try with_reducible rfl)
  simp only [Act.put, pu1, pu2, pu3, pu4, pu5, pu6]
  refine tkY 3 11 ?_ rfl ?_ hH0 ?_
  rotate_left
  ·intro wS hS; go_simp; (try with_reducible rfl)
  simp only [Act.put, pu1, pu2, pu3, pu4, pu5, pu6]
  refine tkY 4 11 ?_ rfl ?_ hH0 ?_
  rotate_left
  ·intro wS hS; have k1 := (jC15 (HSK.out _ hS).r2).2.1; go_simp; (try with_reducible rfl)
  simp only [Act.put, pu1, pu2, pu3, pu4, pu5, pu6]
  refine wpAnyL_duo (i := 5) (j := 7) (by decide +kernel) (by rfl) (by rfl) (fun K hK => ?_) (fun K hK => ?_)
  ·rw [if_pos (by rfl)]
   go_simp
   refine (Code.find_of l A n c HL.out hn p.id u0 (HSK.out _ hH0).its (i : Int) HK0.out).mono ?_
   rintro e u1 ⟨rfl, hx1⟩
   have hH1 := hH0.trans (hx1.mono hH0.size)
   refine hK.out _ _ (Or.inr hH1) ?_
   clear hK K hx1
   try simp only [Act.put, pu1, pu2, pu3, pu4, pu5, pu6]
   refine tkY 6 11 ?_ rfl ?_ hH1 ?_
   rotate_left
   ·intro wS hS; go_simp; (try with_reducible rfl)
   simp only [Act.put, pu1, pu2, pu3, pu4, pu5, pu6]
   refine onY 7 (by rfl) fun K hK => ?_
   go_simp
   have hx2 := Below.news (Below.refl u1.heap.size u1) (.cells #[.slice none 0 0, .int .i64 0, .string ⟨#[]⟩, .string ⟨#[]⟩, .string ⟨#[]⟩, .string ⟨#[]⟩, .int .i64 0, .string ⟨#[]⟩, .string ⟨#[]⟩, .string ⟨#[]⟩, .string ⟨#[]⟩, .string ⟨#[]⟩, .bool false, .int .i64 0, .string ⟨#[]⟩, .string ⟨#[]⟩, .int .i64 0] 68)
   have hr2 := heap_alloc_new u1 (.cells #[.slice none 0 0, .int .i64 0, .string ⟨#[]⟩, .string ⟨#[]⟩, .string ⟨#[]⟩, .string ⟨#[]⟩, .int .i64 0, .string ⟨#[]⟩, .string ⟨#[]⟩, .string ⟨#[]⟩, .string ⟨#[]⟩, .string ⟨#[]⟩, .bool false, .int .i64 0, .string ⟨#[]⟩, .string ⟨#[]⟩, .int .i64 0] 68)
   have hg2 : w3.heap.size ≤ u1.heap.size := hH1.size
   have hH2 := hH1.trans (hx2.mono hH1.size)
   refine hK.out _ _ (Or.inr hH2) ?_
   clear hK K hx2
   try simp only [Act.put, pu1, pu2, pu3, pu4, pu5, pu6]
   generalize u1.alloc (.cells #[.slice none 0 0, .int .i64 0, .string ⟨#[]⟩, .string ⟨#[]⟩, .string ⟨#[]⟩, .string ⟨#[]⟩, .int .i64 0, .string ⟨#[]⟩, .string ⟨#[]⟩, .string ⟨#[]⟩, .string ⟨#[]⟩, .string ⟨#[]⟩, .bool false, .int .i64 0, .string ⟨#[]⟩, .string ⟨#[]⟩, .int .i64 0] 68) = u2 at *
   generalize u1.heap.size = g2 at *
   refine onY 8 (by rfl) fun K hK => ?_
   have hst := store_part (ty := 68) u2 g2 0 #[.slice none 0 0, .int .i64 0, .string ⟨#[]⟩, .string ⟨#[]⟩, .string ⟨#[]⟩, .string ⟨#[]⟩, .int .i64 0, .string ⟨#[]⟩, .string ⟨#[]⟩, .string ⟨#[]⟩, .string ⟨#[]⟩, .string ⟨#[]⟩, .bool false, .int .i64 0, .string ⟨#[]⟩, .string ⟨#[]⟩, .int .i64 0] (.agg #[.slice A n c, .int .i64 p.1, .string p.2, .string p.3, .string p.4, .string p.5, .int .i64 p.6.1, .string p.6.2, .string p.6.3, .string p.6.4, .string p.6.5, .string p.6.6, .bool p.6.7, .int .i64 p.7, .string p.8, .string p.9, .int .i64 i]) #[.slice A n c, .int .i64 p.1, .string p.2, .string p.3, .string p.4, .string p.5, .int .i64 p.6.1, .string p.6.2, .string p.6.3, .string p.6.4, .string p.6.5, .string p.6.6, .bool p.6.7, .int .i64 p.7, .string p.8, .string p.9, .int .i64 i] hr2 infoCh17 (Nat.le_refl _) (one_change A n c p (i : Int)) rfl
   go_simp
   clear hst
   have hr3 := setRow_heap u2 g2 _ #[.slice A n c, .int .i64 p.1, .string p.2, .string p.3, .string p.4, .string p.5, .int .i64 p.6.1, .string p.6.2, .string p.6.3, .string p.6.4, .string p.6.5, .string p.6.6, .bool p.6.7, .int .i64 p.7, .string p.8, .string p.9, .int .i64 i] _ _ hr2
   have hH3 := below_setRow hH2 hg2 (g := g2) #[.slice A n c, .int .i64 p.1, .string p.2, .string p.3, .string p.4, .string p.5, .int .i64 p.6.1, .string p.6.2, .string p.6.3, .string p.6.4, .string p.6.5, .string p.6.6, .bool p.6.7, .int .i64 p.7, .string p.8, .string p.9, .int .i64 i]
   refine hK.out _ _ (Or.inr hH3) ?_
   clear hK K
   try simp only [Act.put, pu1, pu2, pu3, pu4, pu5, pu6]
   refine dnY ?_
   go_wp2_with fail
   go_meet
   case rel => exact ⟨g2, rfl, hg2, hr3, hH3⟩
  ·rw [if_pos (by rfl)]
   go_simp
   have hx2 := Below.news (Below.refl u0.heap.size u0) (.cells #[.slice none 0 0, .int .i64 0, .string ⟨#[]⟩, .string ⟨#[]⟩, .string ⟨#[]⟩, .string ⟨#[]⟩, .int .i64 0, .string ⟨#[]⟩, .string ⟨#[]⟩, .string ⟨#[]⟩, .string ⟨#[]⟩, .string ⟨#[]⟩, .bool false, .int .i64 0, .string ⟨#[]⟩, .string ⟨#[]⟩, .int .i64 0] 68)
   have hr1 := heap_alloc_new u0 (.cells #[.slice none 0 0, .int .i64 0, .string ⟨#[]⟩, .string ⟨#[]⟩, .string ⟨#[]⟩, .string ⟨#[]⟩, .int .i64 0, .string ⟨#[]⟩, .string ⟨#[]⟩, .string ⟨#[]⟩, .string ⟨#[]⟩, .string ⟨#[]⟩, .bool false, .int .i64 0, .string ⟨#[]⟩, .string ⟨#[]⟩, .int .i64 0] 68)
   have hg2 : w3.heap.size ≤ u0.heap.size := hH0.size
   have hH1 := hH0.trans (hx2.mono hH0.size)
   refine hK.out _ _ (Or.inr hH1) ?_
   clear hK K hx2
   try simp only [Act.put, pu1, pu2, pu3, pu4, pu5, pu6]
   generalize u0.alloc (.cells #[.slice none 0 0, .int .i64 0, .string ⟨#[]⟩, .string ⟨#[]⟩, .string ⟨#[]⟩, .string ⟨#[]⟩, .int .i64 0, .string ⟨#[]⟩, .string ⟨#[]⟩, .string ⟨#[]⟩, .string ⟨#[]⟩, .string ⟨#[]⟩, .bool false, .int .i64 0, .string ⟨#[]⟩, .string ⟨#[]⟩, .int .i64 0] 68) = u1 at *
   generalize u0.heap.size = g2 at *
   refine onY 5 (by rfl) fun K hK => ?_
   go_simp
   refine (Code.find_of l A n c HL.out hn p.id u1 (HSK.out _ hH1).its (i : Int) HK0.out).mono ?_
   rintro e u2 ⟨rfl, hx1⟩
   have hH2 := hH1.trans (hx1.mono hH1.size)
   have hr2 := iNext hr1 hx1
   refine hK.out _ _ (Or.inr hH2) ?_
   clear hK K hx1
   try simp only [Act.put, pu1, pu2, pu3, pu4, pu5, pu6]
   refine tkY 6 11 ?_ rfl ?_ hH2 ?_
   rotate_left
   ·intro wS hS; go_simp; (try with_reducible rfl)
   simp only [Act.put, pu1, pu2, pu3, pu4, pu5, pu6]
   refine onY 8 (by rfl) fun K hK => ?_
   have hst := store_part (ty := 68) u2 g2 0 #[.slice none 0 0, .int .i64 0, .string ⟨#[]⟩, .string ⟨#[]⟩, .string ⟨#[]⟩, .string ⟨#[]⟩, .int .i64 0, .string ⟨#[]⟩, .string ⟨#[]⟩, .string ⟨#[]⟩, .string ⟨#[]⟩, .string ⟨#[]⟩, .bool false, .int .i64 0, .string ⟨#[]⟩, .string ⟨#[]⟩, .int .i64 0] (.agg #[.slice A n c, .int .i64 p.1, .string p.2, .string p.3, .string p.4, .string p.5, .int .i64 p.6.1, .string p.6.2, .string p.6.3, .string p.6.4, .string p.6.5, .string p.6.6, .bool p.6.7, .int .i64 p.7, .string p.8, .string p.9, .int .i64 i]) #[.slice A n c, .int .i64 p.1, .string p.2, .string p.3, .string p.4, .string p.5, .int .i64 p.6.1, .string p.6.2, .string p.6.3, .string p.6.4, .string p.6.5, .string p.6.6, .bool p.6.7, .int .i64 p.7, .string p.8, .string p.9, .int .i64 i] hr2 infoCh17 (Nat.le_refl _) (one_change A n c p (i : Int)) rfl
   go_simp
   clear hst
   have hr3 := setRow_heap u2 g2 _ #[.slice A n c, .int .i64 p.1, .string p.2, .string p.3, .string p.4, .string p.5, .int .i64 p.6.1, .string p.6.2, .string p.6.3, .string p.6.4, .string p.6.5, .string p.6.6, .bool p.6.7, .int .i64 p.7, .string p.8, .string p.9, .int .i64 i] _ _ hr2
   have hH3 := below_setRow hH2 hg2 (g := g2) #[.slice A n c, .int .i64 p.1, .string p.2, .string p.3, .string p.4, .string p.5, .int .i64 p.6.1, .string p.6.2, .string p.6.3, .string p.6.4, .string p.6.5, .string p.6.6, .bool p.6.7, .int .i64 p.7, .string p.8, .string p.9, .int .i64 i]
   refine hK.out _ _ (Or.inr hH3) ?_
   clear hK K
   try simp only [Act.put, pu1, pu2, pu3, pu4, pu5, pu6]
   refine dnY ?_
   go_wp2_with fail
   go_meet
   case rel => exact ⟨g2, rfl, hg2, hr3, hH3⟩
 case rest =>
  obtain ⟨b6, rfl, hb6, r6, hbw⟩ := hcut
  rename World => wq
  have hS4 := HSK.out _ hbw
  have hb4 := bnext hb3 hbw
  clear hbw HSK hS3 hb3
  have hst := store_new (ty := 71) (T := 71) wq #[.nilFunc, .nilFunc, .nilFunc, .nilFunc, .nilFunc, .nilFunc, .nilFunc, .nilFunc] #[.nilFunc, .func (.func 26) #[] #[], .func (.func 27) #[] #[], .func (.func 28) #[] #[], .func (.func 29) #[] #[], .func (.func 30) #[] #[], .func (.func 30) #[] #[], .func (.func 31) #[] #[]] (by kernel_rfl) rfl (by decide +kernel)
  have hb6q := lt_of_block r6
  go_upto_region 5 with (fail)
  clear hst
  have hbn := Below.news (Below.refl wq.heap.size wq) (.cells #[.nilFunc, .func (.func 26) #[] #[], .func (.func 27) #[] #[], .func (.func 28) #[] #[], .func (.func 29) #[] #[], .func (.func 30) #[] #[], .func (.func 30) #[] #[], .func (.func 31) #[] #[]] 71)
  have r7 := heap_alloc_new wq (.cells #[.nilFunc, .func (.func 26) #[] #[], .func (.func 27) #[] #[], .func (.func 28) #[] #[], .func (.func 29) #[] #[], .func (.func 30) #[] #[], .func (.func 30) #[] #[], .func (.func 31) #[] #[]] 71)
  have hS5 := hS4.below hbn
  have r65 := iNext r6 hbn
  have hb5 := bnext hb4 hbn
  clear hbn hS4 r6 hb4
  obtain ⟨b7, hb7⟩ : ∃ b7, b7 = wq.heap.size := ⟨_, rfl⟩
  rw [← hb7] at r7 hb6q ⊢
  have HB7 := hide hb7
  clear hb7
  generalize wq.alloc (.cells #[.nilFunc, .func (.func 26) #[] #[], .func (.func 27) #[] #[], .func (.func 28) #[] #[], .func (.func 29) #[] #[], .func (.func 30) #[] #[], .func (.func 30) #[] #[], .func (.func 31) #[] #[]] 71) = w5 at *
  clear HB7
  have c0 := (jC15 hS5.r2).1
  have k1 := (jC15 hS5.r2).2.1
  have hL6 := hide (range_of r65 0 [.slice A n c, .int .i64 p.1, .string p.2, .string p.3, .string p.4, .string p.5, .int .i64 p.6.1, .string p.6.2, .string p.6.3, .string p.6.4, .string p.6.5, .string p.6.6, .bool p.6.7, .int .i64 p.7, .string p.8, .string p.9, .int .i64 i] rfl)
  go_wp2_with (with_reducible refine wpList_load_mid rfl 68 (.tmp 6) rfl b6 0 rfl _ _ hL6.out Try.underlying68 rfl (by kernel_rfl) ?_)
  refine (item_of l A n c HL.out hn p (i : Int) p.id w5 hS5.its y HY.out).mono ?_
  rintro e w6 ⟨rfl, hbq⟩
  clear hL6 k1 c0
  have hS6 := hS5.below hbq
  have r66 := iNext r65 hbq
  have r76 := iNext r7 hbq
  have hb6' := bnext hb5 hbq
  clear hbq hS5 r65 r7 hb5
  have hst := store_new (ty := 37) (T := 37) w6 #[.int .i64 0, .string ⟨#[]⟩, .string ⟨#[]⟩, .string ⟨#[]⟩, .string ⟨#[]⟩, .string ⟨#[]⟩, .bool false] #[.int .i64 y.1, .string y.2, .string y.3, .string y.4, .string y.5, .string y.6, .bool y.7] (by kernel_rfl) rfl (all_oneCell_toArray (iLay.one y))
  go_upto_region 7 with (fail)
  clear hst
  have hbn := Below.news (Below.refl w6.heap.size w6) (.cells #[.int .i64 y.1, .string y.2, .string y.3, .string y.4, .string y.5, .string y.6, .bool y.7] 37)
  have r8 := heap_alloc_new w6 (.cells #[.int .i64 y.1, .string y.2, .string y.3, .string y.4, .string y.5, .string y.6, .bool y.7] 37)
  have hS7 := hS6.below hbn
  have r67 := iNext r66 hbn
  have r77 := iNext r76 hbn
  have hb7' := bnext hb6' hbn
  clear hbn hS6 r66 r76 hb6'
  obtain ⟨b8, hb8⟩ : ∃ b8, b8 = w6.heap.size := ⟨_, rfl⟩
  rw [← hb8] at r8 ⊢
  have HB8 := hide hb8
  clear hb8
  generalize w6.alloc (.cells #[.int .i64 y.1, .string y.2, .string y.3, .string y.4, .string y.5, .string y.6, .bool y.7] 37) = w7 at *
  clear HB8
  have c0 := (jC15 hS7.r2).1
  obtain ⟨z0, z1, z2, z3, z4, z5, z6⟩ := iCells r8
  clear z1 z2 z3 z4 z5
  have yg := YG.out
  clear YG
  cases y1 : (y.kind == 1)
  all_goals
   go_upto_region 14 with (fail)
   clear z0 z6 r8
   clear c0
   have HSK2 := hide (fun X (hX : Below w7.heap.size w7 X) => hS7.below hX)
   have HR6 := hide (fun X (hX : Below w7.heap.size w7 X) => iNext r67 hX)
   have HR7 := hide (fun X (hX : Below w7.heap.size w7 X) => iNext r77 hX)
   have hsz5 := lt_of_block hS7.r3
   refine wp_region_noPanic ?_
   refine wp_region_L (Below w7.heap.size w7) 8 hmx ?_
   have hH0 : (Below w7.heap.size w7) w7.drew := (Below.refl w7.heap.size w7).drew
   generalize w7.drew = u0 at *
   refine tkY 0 12 ?_ rfl ?_ hH0 ?_
   rotate_left
   ·intro wS hS; go_simp; (try with_reducible rfl)
   simp only [Act.put, pu1, pu2, pu3, pu4, pu5, pu6]
   refine tkY 1 12 ?_ rfl ?_ hH0 ?_
   rotate_left
   ·intro wS hS; have c0 := (jC15 (HSK2.out _ hS).r2).1; go_simp; (try with_reducible rfl)
   simp only [Act.put, pu1, pu2, pu3, pu4, pu5, pu6]
   refine tkY 2 12 ?_ rfl ?_ hH0 ?_
   rotate_left
   ·intro wS hS; have hk := HK.out; go_simp; (try with_reducible rfl)
   simp only [Act.put, pu1, pu2, pu3, pu4, pu5, pu6]
   refine tkY 3 12 ?_ rfl ?_ hH0 ?_
   rotate_left
   ·intro wS hS; have cf := cell_of_row _ _ 3 _ _ (0, 0) (HR7.out _ hS); go_simp; (try with_reducible rfl)
   simp only [Act.put, pu1, pu2, pu3, pu4, pu5, pu6]
   refine tkV 4 12 (.agg #[.slice A n c, .int .i64 p.1, .string p.2, .string p.3, .string p.4, .string p.5, .int .i64 p.6.1, .string p.6.2, .string p.6.3, .string p.6.4, .string p.6.5, .string p.6.6, .bool p.6.7, .int .i64 p.7, .string p.8, .string p.9, .int .i64 i]) rfl (by exact yieldsIf_load_mid (by rfl) 68 (.tmp 6) rfl b6 0 rfl [.slice A n c, .int .i64 p.1, .string p.2, .string p.3, .string p.4, .string p.5, .int .i64 p.6.1, .string p.6.2, .string p.6.3, .string p.6.4, .string p.6.5, .string p.6.6, .bool p.6.7, .int .i64 p.7, .string p.8, .string p.9, .int .i64 i] _ (fun X hX => range_of (HR6.out X hX) 0 [.slice A n c, .int .i64 p.1, .string p.2, .string p.3, .string p.4, .string p.5, .int .i64 p.6.1, .string p.6.2, .string p.6.3, .string p.6.4, .string p.6.5, .string p.6.6, .bool p.6.7, .int .i64 p.7, .string p.8, .string p.9, .int .i64 i] rfl) Try.underlying68 rfl (by kernel_rfl)) hH0 ?_
   simp only [Act.put, pu1, pu2, pu3, pu4, pu5, pu6]
   refine onY 5 (by rfl) fun K hK => ?_
   go_simp
   refine (number_of l A n c HL.out hn p i hil y HYI.out u0 (HSK2.out _ hH0).its).mono ?_
   rintro e u1 ⟨v', rfl, hO, hx1⟩
   have hH1 := hH0.trans (hx1.mono hH0.size)
   have hszu := hH0.size
   refine hK.out _ _ (Or.inr hH1) ?_
   clear hK K hx1
   try simp only [Act.put, pu1, pu2, pu3, pu4, pu5, pu6]
   refine tkY 6 12 ?_ rfl ?_ hH1 ?_
   rotate_left
   ·intro wS hS; go_simp; (try with_reducible rfl)
   simp only [Act.put, pu1, pu2, pu3, pu4, pu5, pu6]
   refine tkY 7 12 ?_ rfl ?_ hH1 ?_
   rotate_left
   ·intro wS hS; go_simp; (try with_reducible rfl)
   simp only [Act.put, pu1, pu2, pu3, pu4, pu5, pu6]
   refine onY 8 (by rfl) fun K hK => ?_
   obtain ⟨A', c', hv', _, _⟩ := hO.row
   obtain ⟨m', hm'⟩ : ∃ m', (l.set i { y with number := p.number }, 0).1.length = m' := ⟨_, rfl⟩
   rw [hm'] at hv'
   clear hm'
   subst hv'
   have hst := store_part (ty := 24) u1 (w.heap.size + 1 + 1) 0 #[.slice none 0 0] (.agg #[.slice A' m' c']) #[.slice A' m' c'] (HSK2.out _ hH1).r3 infoCode1 (Nat.le_refl _) (one_code _ _ _) rfl
   have r25 := setRow_heap u1 (w.heap.size + 1 + 1) _ #[.slice A' m' c'] _ _ (HSK2.out _ hH1).r3
   have hb8 := below_setRow (bnext hb7' hH1) (by omega) (g := w.heap.size + 1 + 1) #[.slice A' m' c']
   have HO2 := hide (own_other hO (g := w.heap.size + 1 + 1) (fun e => by have := (World.ownsRow.lt hO _ e).1; omega) #[.slice A' m' c'])
   go_simp
   clear hst hO
   refine hK.out _ _ (Or.inl (by rfl)) ?_
   clear hK K hH1
   generalize u1.setRow (w.heap.size + 1 + 1) #[.slice A' m' c'] = u2 at *
   try simp only [Act.put, pu1, pu2, pu3, pu4, pu5, pu6]
   refine onY 9 (by rfl) fun K hK => ?_
   go_simp
   refine hK.out _ _ (Or.inl (by rfl)) ?_
   clear hK K
   try simp only [Act.put, pu1, pu2, pu3, pu4, pu5, pu6]
   refine dnY ?_
   have hsz0 : w.heap.size ≤ u0.heap.size := by have := hH0.size; omega
   go_wp2
   refine bodyPost_ret (results_c8 Try.results11 _ _ (w.heap.size + 1 + 1) 24 #[.slice A' m' c'] (0, 0) _ rfl r25 Try.underlying24 (by kernel_rfl)) rfl ⟨_, rfl, own_weak HO2.out (by omega), hb8⟩
set_option maxRecDepth 100000 in
set_option maxHeartbeats 8000000 in
attribute [-go_sem] Instr.storeAt in
theorem apply_repeal (l : List Dg.It) (A : Option Addr) (n c : Nat) (hl : l.length = n) (hn : n ≤ 1048576) (hw : ∀ x ∈ l, ItW x) (p : Dg.Pt) (hp : PtW p) (h2 : p.kind ≠ 2) (hv : Dg.validC l = true) (y : Dg.It) (hy : Dg.itemA l p.id = y) (hf : Dg.formedP p = true) (i : Nat) (hi : Dg.idxI l p.id = some i) (hk : p.kind = 5) (y0 : (y.kind == 0) = false) (y1 : (y.kind == 1) = false) (yg : y.gone = false)  (w : World) (hI : Its w w.heap.size A l) :
  Calls Try.prog 11 #[.agg #[.slice A n c], .agg #[.int .i64 p.1, .string p.2, .string p.3, .string p.4, .string p.5, .int .i64 p.6.1, .string p.6.2, .string p.6.3, .string p.6.4, .string p.6.5, .string p.6.6, .bool p.6.7, .int .i64 p.7, .string p.8, .string p.9]] w (ApR (l.set i { y with gone := true }, 0) w) := by
 obtain ⟨r1, r2, r3, hb1, hs⟩ := iAlloc3 w (.cells #[.slice A n c] 24) (.cells #[.int .i64 p.1, .string p.2, .string p.3, .string p.4, .string p.5, .int .i64 p.6.1, .string p.6.2, .string p.6.3, .string p.6.4, .string p.6.5, .string p.6.6, .bool p.6.7, .int .i64 p.7, .string p.8, .string p.9] 39) (.cells #[.slice none 0 0] 24)
 have hS1 : ApS w.heap.size A n c l p (((w.alloc (.cells #[.slice A n c] 24)).alloc (.cells #[.int .i64 p.1, .string p.2, .string p.3, .string p.4, .string p.5, .int .i64 p.6.1, .string p.6.2, .string p.6.3, .string p.6.4, .string p.6.5, .string p.6.6, .bool p.6.7, .int .i64 p.7, .string p.8, .string p.9] 39)).alloc (.cells #[.slice none 0 0] 24)) := ⟨r1, r2, r3, hI.keep hb1⟩
 have hmx : Try.prog.follows .mixedOrders = true := by kernel_rfl
 have HK := hide hk
 have k1 : (p.kind != 1) = true := by rw [hk]; rfl
 have k6 : (p.kind == 6) = false := by rw [hk]; rfl
 have k6n : (p.kind != 6) = true := by rw [hk]; rfl
 have hil : i < n := by obtain ⟨h, _⟩ := Dg.idxI_some hi; omega
 have hyi : l.getD i Dg.zeroI = y := by rw [← hy]; unfold Dg.itemA; rw [hi]
 have HK0 := hide (findX_idx hi); have HIX := hide hi; have HYI := hide hyi; have HY := hide hy; have YG := hide yg
 clear hk hyi hi hy yg
 have HS := hide hs; have HL := hide hl; have HW := hide hw; have HP := hide hp; have H2 := hide h2; have HV := hide hv
 clear r1 r2 r3 hs hI hl hw hp h2 hv
 have HF := hide hf
 clear hf
 have c1 := iCells0 hS1.r1
 go_enter Try.func11, Try.ntmps11
 go_wp2_with fail
 generalize ((w.alloc (.cells #[.slice A n c] 24)).alloc (.cells #[.int .i64 p.1, .string p.2, .string p.3, .string p.4, .string p.5, .int .i64 p.6.1, .string p.6.2, .string p.6.3, .string p.6.4, .string p.6.5, .string p.6.6, .bool p.6.7, .int .i64 p.7, .string p.8, .string p.9] 39)).alloc (.cells #[.slice none 0 0] 24) = w1 at *
 refine (Code.valid_of l A n c HL.out HW.out hn w1 hS1.its true HV.out).mono ?_
 rintro e w2 ⟨rfl, hbq⟩
 have hS2 := hS1.below hbq
 have hb2 := bnext hb1 hbq
 have hsz : w.heap.size + 3 ≤ w2.heap.size := by have := hbq.size; have := HS.out; omega
 clear hbq hS1 hb1 c1 HS
 have hL2 := hide (range_of hS2.r2 0 [.int .i64 p.1, .string p.2, .string p.3, .string p.4, .string p.5, .int .i64 p.6.1, .string p.6.2, .string p.6.3, .string p.6.4, .string p.6.5, .string p.6.6, .bool p.6.7, .int .i64 p.7, .string p.8, .string p.9] rfl)
 go_wp2_with (refine wpList_load_midW 39 (.tmp 3) rfl (by rfl) (w.heap.size + 1) 0 rfl _ _ hL2.out Try.underlying39 rfl (by kernel_rfl) ?_)
 clear hL2
 refine (formed_of p HP.out H2.out true HF.out w2).mono ?_
 rintro e w3 ⟨rfl, hbq⟩
 have hS3 := hS2.below hbq
 have hb3 := bnext hb2 hbq
 have hsz3 : w.heap.size + 3 ≤ w3.heap.size := by have := hbq.size; omega
 clear hbq hS2 hb2 hsz
 have HSK := hide (fun X (hX : Below w3.heap.size w3 X) => hS3.below hX)
 go_upto_region 3 with (fail)
 go_cut [6] from 18 to 24 (fun v6 wx => ∃ b6 : Nat, v6 = .pointer (some ⟨b6, 0, none⟩) ∧ w3.heap.size ≤ b6 ∧ wx.heap[b6]? = some (.cells #[.slice A n c, .int .i64 p.1, .string p.2, .string p.3, .string p.4, .string p.5, .int .i64 p.6.1, .string p.6.2, .string p.6.3, .string p.6.4, .string p.6.5, .string p.6.6, .bool p.6.7, .int .i64 p.7, .string p.8, .string p.9, .int .i64 i] 68 (0, 0)) ∧ Below w3.heap.size w3 wx)
 case first =>
  refine wp_region_noPanic ?_
  refine wp_region_L (Below w3.heap.size w3) 9 hmx ?_
  have hH0 : (Below w3.heap.size w3) w3.drew := (Below.refl w3.heap.size w3).drew
  generalize w3.drew = u0 at *
  refine tkY 0 11 ?_ rfl ?_ hH0 ?_
  rotate_left
  ·intro wS hS; have c1 := iCells0 (HSK.out _ hS).r1; go_simp; (try with_reducible rfl)
  simp only [Act.put, pu1, pu2, pu3, pu4, pu5, pu6]
  refine tkV 1 11 (.agg #[.int .i64 p.1, .string p.2, .string p.3, .string p.4, .string p.5, .int .i64 p.6.1, .string p.6.2, .string p.6.3, .string p.6.4, .string p.6.5, .string p.6.6, .bool p.6.7, .int .i64 p.7, .string p.8, .string p.9]) rfl (by exact yieldsIf_load_mid (by rfl) 39 (.tmp 3) rfl (w.heap.size + 1) 0 rfl [.int .i64 p.1, .string p.2, .string p.3, .string p.4, .string p.5, .int .i64 p.6.1, .string p.6.2, .string p.6.3, .string p.6.4, .string p.6.5, .string p.6.6, .bool p.6.7, .int .i64 p.7, .string p.8, .string p.9] _ (fun X hX => range_of (HSK.out X hX).r2 0 [.int .i64 p.1, .string p.2, .string p.3, .string p.4, .string p.5, .int .i64 p.6.1, .string p.6.2, .string p.6.3, .string p.6.4, .string p.6.5, .string p.6.6, .bool p.6.7, .int .i64 p.7, .string p.8, .string p.9] rfl) Try.underlying39 rfl (by kernel_rfl)) hH0 ?_
  simp only [Act.put, pu1, pu2, pu3, pu4, pu5, pu6]
  refine tkY 2 11 ?_ rfl ?_ hH0 ?_
  rotate_left
  ·intro wS hS; have c1 := iCells0 (HSK.out _ hS).r1; go_simp; (try with_reducible rfl)
  simp only [Act.put, pu1, pu2, pu3, pu4, pu5, pu6]
  refine tkY 3 11 ?_ rfl ?_ hH0 ?_
  rotate_left
  ·intro wS hS; go_simp; (try with_reducible rfl)
  simp only [Act.put, pu1, pu2, pu3, pu4, pu5, pu6]
  refine tkY 4 11 ?_ rfl ?_ hH0 ?_
  rotate_left
  ·intro wS hS; have k1 := (jC15 (HSK.out _ hS).r2).2.1; go_simp; (try with_reducible rfl)
  simp only [Act.put, pu1, pu2, pu3, pu4, pu5, pu6]
  refine wpAnyL_duo (i := 5) (j := 7) (by decide +kernel) (by rfl) (by rfl) (fun K hK => ?_) (fun K hK => ?_)
  ·rw [if_pos (by rfl)]
   go_simp
   refine (Code.find_of l A n c HL.out hn p.id u0 (HSK.out _ hH0).its (i : Int) HK0.out).mono ?_
   rintro e u1 ⟨rfl, hx1⟩
   have hH1 := hH0.trans (hx1.mono hH0.size)
   refine hK.out _ _ (Or.inr hH1) ?_
   clear hK K hx1
   try simp only [Act.put, pu1, pu2, pu3, pu4, pu5, pu6]
   refine tkY 6 11 ?_ rfl ?_ hH1 ?_
   rotate_left
   ·intro wS hS; go_simp; (try with_reducible rfl)
   simp only [Act.put, pu1, pu2, pu3, pu4, pu5, pu6]
   refine onY 7 (by rfl) fun K hK => ?_
   go_simp
   have hx2 := Below.news (Below.refl u1.heap.size u1) (.cells #[.slice none 0 0, .int .i64 0, .string ⟨#[]⟩, .string ⟨#[]⟩, .string ⟨#[]⟩, .string ⟨#[]⟩, .int .i64 0, .string ⟨#[]⟩, .string ⟨#[]⟩, .string ⟨#[]⟩, .string ⟨#[]⟩, .string ⟨#[]⟩, .bool false, .int .i64 0, .string ⟨#[]⟩, .string ⟨#[]⟩, .int .i64 0] 68)
   have hr2 := heap_alloc_new u1 (.cells #[.slice none 0 0, .int .i64 0, .string ⟨#[]⟩, .string ⟨#[]⟩, .string ⟨#[]⟩, .string ⟨#[]⟩, .int .i64 0, .string ⟨#[]⟩, .string ⟨#[]⟩, .string ⟨#[]⟩, .string ⟨#[]⟩, .string ⟨#[]⟩, .bool false, .int .i64 0, .string ⟨#[]⟩, .string ⟨#[]⟩, .int .i64 0] 68)
   have hg2 : w3.heap.size ≤ u1.heap.size := hH1.size
   have hH2 := hH1.trans (hx2.mono hH1.size)
   refine hK.out _ _ (Or.inr hH2) ?_
   clear hK K hx2
   try simp only [Act.put, pu1, pu2, pu3, pu4, pu5, pu6]
   generalize u1.alloc (.cells #[.slice none 0 0, .int .i64 0, .string ⟨#[]⟩, .string ⟨#[]⟩, .string ⟨#[]⟩, .string ⟨#[]⟩, .int .i64 0, .string ⟨#[]⟩, .string ⟨#[]⟩, .string ⟨#[]⟩, .string ⟨#[]⟩, .string ⟨#[]⟩, .bool false, .int .i64 0, .string ⟨#[]⟩, .string ⟨#[]⟩, .int .i64 0] 68) = u2 at *
   generalize u1.heap.size = g2 at *
   refine onY 8 (by rfl) fun K hK => ?_
   have hst := store_part (ty := 68) u2 g2 0 #[.slice none 0 0, .int .i64 0, .string ⟨#[]⟩, .string ⟨#[]⟩, .string ⟨#[]⟩, .string ⟨#[]⟩, .int .i64 0, .string ⟨#[]⟩, .string ⟨#[]⟩, .string ⟨#[]⟩, .string ⟨#[]⟩, .string ⟨#[]⟩, .bool false, .int .i64 0, .string ⟨#[]⟩, .string ⟨#[]⟩, .int .i64 0] (.agg #[.slice A n c, .int .i64 p.1, .string p.2, .string p.3, .string p.4, .string p.5, .int .i64 p.6.1, .string p.6.2, .string p.6.3, .string p.6.4, .string p.6.5, .string p.6.6, .bool p.6.7, .int .i64 p.7, .string p.8, .string p.9, .int .i64 i]) #[.slice A n c, .int .i64 p.1, .string p.2, .string p.3, .string p.4, .string p.5, .int .i64 p.6.1, .string p.6.2, .string p.6.3, .string p.6.4, .string p.6.5, .string p.6.6, .bool p.6.7, .int .i64 p.7, .string p.8, .string p.9, .int .i64 i] hr2 infoCh17 (Nat.le_refl _) (one_change A n c p (i : Int)) rfl
   go_simp
   clear hst
   have hr3 := setRow_heap u2 g2 _ #[.slice A n c, .int .i64 p.1, .string p.2, .string p.3, .string p.4, .string p.5, .int .i64 p.6.1, .string p.6.2, .string p.6.3, .string p.6.4, .string p.6.5, .string p.6.6, .bool p.6.7, .int .i64 p.7, .string p.8, .string p.9, .int .i64 i] _ _ hr2
   have hH3 := below_setRow hH2 hg2 (g := g2) #[.slice A n c, .int .i64 p.1, .string p.2, .string p.3, .string p.4, .string p.5, .int .i64 p.6.1, .string p.6.2, .string p.6.3, .string p.6.4, .string p.6.5, .string p.6.6, .bool p.6.7, .int .i64 p.7, .string p.8, .string p.9, .int .i64 i]
   refine hK.out _ _ (Or.inr hH3) ?_
   clear hK K
   try simp only [Act.put, pu1, pu2, pu3, pu4, pu5, pu6]
   refine dnY ?_
   go_wp2_with fail
   go_meet
   case rel => exact ⟨g2, rfl, hg2, hr3, hH3⟩
  ·rw [if_pos (by rfl)]
   go_simp
   have hx2 := Below.news (Below.refl u0.heap.size u0) (.cells #[.slice none 0 0, .int .i64 0, .string ⟨#[]⟩, .string ⟨#[]⟩, .string ⟨#[]⟩, .string ⟨#[]⟩, .int .i64 0, .string ⟨#[]⟩, .string ⟨#[]⟩, .string ⟨#[]⟩, .string ⟨#[]⟩, .string ⟨#[]⟩, .bool false, .int .i64 0, .string ⟨#[]⟩, .string ⟨#[]⟩, .int .i64 0] 68)
   have hr1 := heap_alloc_new u0 (.cells #[.slice none 0 0, .int .i64 0, .string ⟨#[]⟩, .string ⟨#[]⟩, .string ⟨#[]⟩, .string ⟨#[]⟩, .int .i64 0, .string ⟨#[]⟩, .string ⟨#[]⟩, .string ⟨#[]⟩, .string ⟨#[]⟩, .string ⟨#[]⟩, .bool false, .int .i64 0, .string ⟨#[]⟩, .string ⟨#[]⟩, .int .i64 0] 68)
   have hg2 : w3.heap.size ≤ u0.heap.size := hH0.size
   have hH1 := hH0.trans (hx2.mono hH0.size)
   refine hK.out _ _ (Or.inr hH1) ?_
   clear hK K hx2
   try simp only [Act.put, pu1, pu2, pu3, pu4, pu5, pu6]
   generalize u0.alloc (.cells #[.slice none 0 0, .int .i64 0, .string ⟨#[]⟩, .string ⟨#[]⟩, .string ⟨#[]⟩, .string ⟨#[]⟩, .int .i64 0, .string ⟨#[]⟩, .string ⟨#[]⟩, .string ⟨#[]⟩, .string ⟨#[]⟩, .string ⟨#[]⟩, .bool false, .int .i64 0, .string ⟨#[]⟩, .string ⟨#[]⟩, .int .i64 0] 68) = u1 at *
   generalize u0.heap.size = g2 at *
   refine onY 5 (by rfl) fun K hK => ?_
   go_simp
   refine (Code.find_of l A n c HL.out hn p.id u1 (HSK.out _ hH1).its (i : Int) HK0.out).mono ?_
   rintro e u2 ⟨rfl, hx1⟩
   have hH2 := hH1.trans (hx1.mono hH1.size)
   have hr2 := iNext hr1 hx1
   refine hK.out _ _ (Or.inr hH2) ?_
   clear hK K hx1
   try simp only [Act.put, pu1, pu2, pu3, pu4, pu5, pu6]
   refine tkY 6 11 ?_ rfl ?_ hH2 ?_
   rotate_left
   ·intro wS hS; go_simp; (try with_reducible rfl)
   simp only [Act.put, pu1, pu2, pu3, pu4, pu5, pu6]
   refine onY 8 (by rfl) fun K hK => ?_
   have hst := store_part (ty := 68) u2 g2 0 #[.slice none 0 0, .int .i64 0, .string ⟨#[]⟩, .string ⟨#[]⟩, .string ⟨#[]⟩, .string ⟨#[]⟩, .int .i64 0, .string ⟨#[]⟩, .string ⟨#[]⟩, .string ⟨#[]⟩, .string ⟨#[]⟩, .string ⟨#[]⟩, .bool false, .int .i64 0, .string ⟨#[]⟩, .string ⟨#[]⟩, .int .i64 0] (.agg #[.slice A n c, .int .i64 p.1, .string p.2, .string p.3, .string p.4, .string p.5, .int .i64 p.6.1, .string p.6.2, .string p.6.3, .string p.6.4, .string p.6.5, .string p.6.6, .bool p.6.7, .int .i64 p.7, .string p.8, .string p.9, .int .i64 i]) #[.slice A n c, .int .i64 p.1, .string p.2, .string p.3, .string p.4, .string p.5, .int .i64 p.6.1, .string p.6.2, .string p.6.3, .string p.6.4, .string p.6.5, .string p.6.6, .bool p.6.7, .int .i64 p.7, .string p.8, .string p.9, .int .i64 i] hr2 infoCh17 (Nat.le_refl _) (one_change A n c p (i : Int)) rfl
   go_simp
   clear hst
   have hr3 := setRow_heap u2 g2 _ #[.slice A n c, .int .i64 p.1, .string p.2, .string p.3, .string p.4, .string p.5, .int .i64 p.6.1, .string p.6.2, .string p.6.3, .string p.6.4, .string p.6.5, .string p.6.6, .bool p.6.7, .int .i64 p.7, .string p.8, .string p.9, .int .i64 i] _ _ hr2
   have hH3 := below_setRow hH2 hg2 (g := g2) #[.slice A n c, .int .i64 p.1, .string p.2, .string p.3, .string p.4, .string p.5, .int .i64 p.6.1, .string p.6.2, .string p.6.3, .string p.6.4, .string p.6.5, .string p.6.6, .bool p.6.7, .int .i64 p.7, .string p.8, .string p.9, .int .i64 i]
   refine hK.out _ _ (Or.inr hH3) ?_
   clear hK K
   try simp only [Act.put, pu1, pu2, pu3, pu4, pu5, pu6]
   refine dnY ?_
   go_wp2_with fail
   go_meet
   case rel => exact ⟨g2, rfl, hg2, hr3, hH3⟩
 case rest =>
  obtain ⟨b6, rfl, hb6, r6, hbw⟩ := hcut
  rename World => wq
  have hS4 := HSK.out _ hbw
  have hb4 := bnext hb3 hbw
  clear hbw HSK hS3 hb3
  have hst := store_new (ty := 71) (T := 71) wq #[.nilFunc, .nilFunc, .nilFunc, .nilFunc, .nilFunc, .nilFunc, .nilFunc, .nilFunc] #[.nilFunc, .func (.func 26) #[] #[], .func (.func 27) #[] #[], .func (.func 28) #[] #[], .func (.func 29) #[] #[], .func (.func 30) #[] #[], .func (.func 30) #[] #[], .func (.func 31) #[] #[]] (by kernel_rfl) rfl (by decide +kernel)
  have hb6q := lt_of_block r6
  go_upto_region 5 with (fail)
  clear hst
  have hbn := Below.news (Below.refl wq.heap.size wq) (.cells #[.nilFunc, .func (.func 26) #[] #[], .func (.func 27) #[] #[], .func (.func 28) #[] #[], .func (.func 29) #[] #[], .func (.func 30) #[] #[], .func (.func 30) #[] #[], .func (.func 31) #[] #[]] 71)
  have r7 := heap_alloc_new wq (.cells #[.nilFunc, .func (.func 26) #[] #[], .func (.func 27) #[] #[], .func (.func 28) #[] #[], .func (.func 29) #[] #[], .func (.func 30) #[] #[], .func (.func 30) #[] #[], .func (.func 31) #[] #[]] 71)
  have hS5 := hS4.below hbn
  have r65 := iNext r6 hbn
  have hb5 := bnext hb4 hbn
  clear hbn hS4 r6 hb4
  obtain ⟨b7, hb7⟩ : ∃ b7, b7 = wq.heap.size := ⟨_, rfl⟩
  rw [← hb7] at r7 hb6q ⊢
  have HB7 := hide hb7
  clear hb7
  generalize wq.alloc (.cells #[.nilFunc, .func (.func 26) #[] #[], .func (.func 27) #[] #[], .func (.func 28) #[] #[], .func (.func 29) #[] #[], .func (.func 30) #[] #[], .func (.func 30) #[] #[], .func (.func 31) #[] #[]] 71) = w5 at *
  clear HB7
  have c0 := (jC15 hS5.r2).1
  have k1 := (jC15 hS5.r2).2.1
  have hL6 := hide (range_of r65 0 [.slice A n c, .int .i64 p.1, .string p.2, .string p.3, .string p.4, .string p.5, .int .i64 p.6.1, .string p.6.2, .string p.6.3, .string p.6.4, .string p.6.5, .string p.6.6, .bool p.6.7, .int .i64 p.7, .string p.8, .string p.9, .int .i64 i] rfl)
  go_wp2_with (with_reducible refine wpList_load_mid rfl 68 (.tmp 6) rfl b6 0 rfl _ _ hL6.out Try.underlying68 rfl (by kernel_rfl) ?_)
  refine (item_of l A n c HL.out hn p (i : Int) p.id w5 hS5.its y HY.out).mono ?_
  rintro e w6 ⟨rfl, hbq⟩
  clear hL6 k1 c0
  have hS6 := hS5.below hbq
  have r66 := iNext r65 hbq
  have r76 := iNext r7 hbq
  have hb6' := bnext hb5 hbq
  clear hbq hS5 r65 r7 hb5
  have hst := store_new (ty := 37) (T := 37) w6 #[.int .i64 0, .string ⟨#[]⟩, .string ⟨#[]⟩, .string ⟨#[]⟩, .string ⟨#[]⟩, .string ⟨#[]⟩, .bool false] #[.int .i64 y.1, .string y.2, .string y.3, .string y.4, .string y.5, .string y.6, .bool y.7] (by kernel_rfl) rfl (all_oneCell_toArray (iLay.one y))
  go_upto_region 7 with (fail)
  clear hst
  have hbn := Below.news (Below.refl w6.heap.size w6) (.cells #[.int .i64 y.1, .string y.2, .string y.3, .string y.4, .string y.5, .string y.6, .bool y.7] 37)
  have r8 := heap_alloc_new w6 (.cells #[.int .i64 y.1, .string y.2, .string y.3, .string y.4, .string y.5, .string y.6, .bool y.7] 37)
  have hS7 := hS6.below hbn
  have r67 := iNext r66 hbn
  have r77 := iNext r76 hbn
  have hb7' := bnext hb6' hbn
  clear hbn hS6 r66 r76 hb6'
  obtain ⟨b8, hb8⟩ : ∃ b8, b8 = w6.heap.size := ⟨_, rfl⟩
  rw [← hb8] at r8 ⊢
  have HB8 := hide hb8
  clear hb8
  generalize w6.alloc (.cells #[.int .i64 y.1, .string y.2, .string y.3, .string y.4, .string y.5, .string y.6, .bool y.7] 37) = w7 at *
  clear HB8
  have c0 := (jC15 hS7.r2).1
  obtain ⟨z0, z1, z2, z3, z4, z5, z6⟩ := iCells r8
  clear z1 z2 z3 z4 z5
  have yg := YG.out
  clear YG
  go_upto_region 14 with (fail)
  clear z0 z6 r8
  clear c0
  have HSK2 := hide (fun X (hX : Below w7.heap.size w7 X) => hS7.below hX)
  have HR6 := hide (fun X (hX : Below w7.heap.size w7 X) => iNext r67 hX)
  have HR7 := hide (fun X (hX : Below w7.heap.size w7 X) => iNext r77 hX)
  have hsz5 := lt_of_block hS7.r3
  refine wp_region_noPanic ?_
  refine wp_region_L (Below w7.heap.size w7) 8 hmx ?_
  have hH0 : (Below w7.heap.size w7) w7.drew := (Below.refl w7.heap.size w7).drew
  generalize w7.drew = u0 at *
  refine tkY 0 12 ?_ rfl ?_ hH0 ?_
  rotate_left
  ·intro wS hS; go_simp; (try with_reducible rfl)
  simp only [Act.put, pu1, pu2, pu3, pu4, pu5, pu6]
  refine tkY 1 12 ?_ rfl ?_ hH0 ?_
  rotate_left
  ·intro wS hS; have c0 := (jC15 (HSK2.out _ hS).r2).1; go_simp; (try with_reducible rfl)
  simp only [Act.put, pu1, pu2, pu3, pu4, pu5, pu6]
  refine tkY 2 12 ?_ rfl ?_ hH0 ?_
  rotate_left
  ·intro wS hS; have hk := HK.out; go_simp; (try with_reducible rfl)
  simp only [Act.put, pu1, pu2, pu3, pu4, pu5, pu6]
  refine tkY 3 12 ?_ rfl ?_ hH0 ?_
  rotate_left
  ·intro wS hS; have cf := cell_of_row _ _ 5 _ _ (0, 0) (HR7.out _ hS); go_simp; (try with_reducible rfl)
  simp only [Act.put, pu1, pu2, pu3, pu4, pu5, pu6]
  refine tkV 4 12 (.agg #[.slice A n c, .int .i64 p.1, .string p.2, .string p.3, .string p.4, .string p.5, .int .i64 p.6.1, .string p.6.2, .string p.6.3, .string p.6.4, .string p.6.5, .string p.6.6, .bool p.6.7, .int .i64 p.7, .string p.8, .string p.9, .int .i64 i]) rfl (by exact yieldsIf_load_mid (by rfl) 68 (.tmp 6) rfl b6 0 rfl [.slice A n c, .int .i64 p.1, .string p.2, .string p.3, .string p.4, .string p.5, .int .i64 p.6.1, .string p.6.2, .string p.6.3, .string p.6.4, .string p.6.5, .string p.6.6, .bool p.6.7, .int .i64 p.7, .string p.8, .string p.9, .int .i64 i] _ (fun X hX => range_of (HR6.out X hX) 0 [.slice A n c, .int .i64 p.1, .string p.2, .string p.3, .string p.4, .string p.5, .int .i64 p.6.1, .string p.6.2, .string p.6.3, .string p.6.4, .string p.6.5, .string p.6.6, .bool p.6.7, .int .i64 p.7, .string p.8, .string p.9, .int .i64 i] rfl) Try.underlying68 rfl (by kernel_rfl)) hH0 ?_
  simp only [Act.put, pu1, pu2, pu3, pu4, pu5, pu6]
  refine onY 5 (by rfl) fun K hK => ?_
  go_simp
  refine (gone_of l A n c HL.out hn p i hil y HYI.out true (by rw [HK.out]; rfl) u0 (HSK2.out _ hH0).its).mono ?_
  rintro e u1 ⟨v', rfl, hO, hx1⟩
  have hH1 := hH0.trans (hx1.mono hH0.size)
  have hszu := hH0.size
  refine hK.out _ _ (Or.inr hH1) ?_
  clear hK K hx1
  try simp only [Act.put, pu1, pu2, pu3, pu4, pu5, pu6]
  refine tkY 6 12 ?_ rfl ?_ hH1 ?_
  rotate_left
  ·intro wS hS; go_simp; (try with_reducible rfl)
  simp only [Act.put, pu1, pu2, pu3, pu4, pu5, pu6]
  refine tkY 7 12 ?_ rfl ?_ hH1 ?_
  rotate_left
  ·intro wS hS; go_simp; (try with_reducible rfl)
  simp only [Act.put, pu1, pu2, pu3, pu4, pu5, pu6]
  refine onY 8 (by rfl) fun K hK => ?_
  obtain ⟨A', c', hv', _, _⟩ := hO.row
  obtain ⟨m', hm'⟩ : ∃ m', (l.set i { y with gone := true }, 0).1.length = m' := ⟨_, rfl⟩
  rw [hm'] at hv'
  clear hm'
  subst hv'
  have hst := store_part (ty := 24) u1 (w.heap.size + 1 + 1) 0 #[.slice none 0 0] (.agg #[.slice A' m' c']) #[.slice A' m' c'] (HSK2.out _ hH1).r3 infoCode1 (Nat.le_refl _) (one_code _ _ _) rfl
  have r25 := setRow_heap u1 (w.heap.size + 1 + 1) _ #[.slice A' m' c'] _ _ (HSK2.out _ hH1).r3
  have hb8 := below_setRow (bnext hb7' hH1) (by omega) (g := w.heap.size + 1 + 1) #[.slice A' m' c']
  have HO2 := hide (own_other hO (g := w.heap.size + 1 + 1) (fun e => by have := (World.ownsRow.lt hO _ e).1; omega) #[.slice A' m' c'])
  go_simp
  clear hst hO
  refine hK.out _ _ (Or.inl (by rfl)) ?_
  clear hK K hH1
  generalize u1.setRow (w.heap.size + 1 + 1) #[.slice A' m' c'] = u2 at *
  try simp only [Act.put, pu1, pu2, pu3, pu4, pu5, pu6]
  refine onY 9 (by rfl) fun K hK => ?_
  go_simp
  refine hK.out _ _ (Or.inl (by rfl)) ?_
  clear hK K
  try simp only [Act.put, pu1, pu2, pu3, pu4, pu5, pu6]
  refine dnY ?_
  have hsz0 : w.heap.size ≤ u0.heap.size := by have := hH0.size; omega
  go_wp2
  refine bodyPost_ret (results_c8 Try.results11 _ _ (w.heap.size + 1 + 1) 24 #[.slice A' m' c'] (0, 0) _ rfl r25 Try.underlying24 (by kernel_rfl)) rfl ⟨_, rfl, own_weak HO2.out (by omega), hb8⟩
end Go.Proofs.Ytgmimhgeigbpkaa
/- Apply of package patch: revivals, moves. No conditions but those that each theorem states. -/
namespace Go.Proofs.Ytgmimhgeigbpkaa
open Go Go.RowKit Go.Sort Go.Maps
set_option maxRecDepth 100000 in
set_option maxHeartbeats 8000000 in
attribute [-go_sem] Instr.storeAt in
theorem apply_revive (l : List Dg.It) (A : Option Addr) (n c : Nat) (hl : l.length = n) (hn : n ≤ 1048576) (hw : ∀ x ∈ l, ItW x) (p : Dg.Pt) (hp : PtW p) (h2 : p.kind ≠ 2) (hv : Dg.validC l = true) (y : Dg.It) (hy : Dg.itemA l p.id = y) (hf : Dg.formedP p = true) (i : Nat) (hi : Dg.idxI l p.id = some i) (hk : p.kind = 6) (y0 : (y.kind == 0) = false) (y1 : (y.kind == 1) = false) (yg : y.gone = true)  (w : World) (hI : Its w w.heap.size A l) :
  Calls Try.prog 11 #[.agg #[.slice A n c], .agg #[.int .i64 p.1, .string p.2, .string p.3, .string p.4, .string p.5, .int .i64 p.6.1, .string p.6.2, .string p.6.3, .string p.6.4, .string p.6.5, .string p.6.6, .bool p.6.7, .int .i64 p.7, .string p.8, .string p.9]] w (ApR (l.set i { y with gone := false }, 0) w) := by
 obtain ⟨r1, r2, r3, hb1, hs⟩ := iAlloc3 w (.cells #[.slice A n c] 24) (.cells #[.int .i64 p.1, .string p.2, .string p.3, .string p.4, .string p.5, .int .i64 p.6.1, .string p.6.2, .string p.6.3, .string p.6.4, .string p.6.5, .string p.6.6, .bool p.6.7, .int .i64 p.7, .string p.8, .string p.9] 39) (.cells #[.slice none 0 0] 24)
 have hS1 : ApS w.heap.size A n c l p (((w.alloc (.cells #[.slice A n c] 24)).alloc (.cells #[.int .i64 p.1, .string p.2, .string p.3, .string p.4, .string p.5, .int .i64 p.6.1, .string p.6.2, .string p.6.3, .string p.6.4, .string p.6.5, .string p.6.6, .bool p.6.7, .int .i64 p.7, .string p.8, .string p.9] 39)).alloc (.cells #[.slice none 0 0] 24)) := ⟨r1, r2, r3, hI.keep hb1⟩
 have hmx : Try.prog.follows .mixedOrders = true := by kernel_rfl
 have HK := hide hk
 have k1 : (p.kind != 1) = true := by rw [hk]; rfl
 have k6 : (p.kind == 6) = true := by rw [hk]; rfl
 have k6n : (p.kind != 6) = false := by rw [hk]; rfl
 have hil : i < n := by obtain ⟨h, _⟩ := Dg.idxI_some hi; omega
 have hyi : l.getD i Dg.zeroI = y := by rw [← hy]; unfold Dg.itemA; rw [hi]
 have HK0 := hide (findX_idx hi); have HIX := hide hi; have HYI := hide hyi; have HY := hide hy; have YG := hide yg
 clear hk hyi hi hy yg
 have HS := hide hs; have HL := hide hl; have HW := hide hw; have HP := hide hp; have H2 := hide h2; have HV := hide hv
 clear r1 r2 r3 hs hI hl hw hp h2 hv
 have HF := hide hf
 clear hf
 have c1 := iCells0 hS1.r1
 go_enter Try.func11, Try.ntmps11
 go_wp2_with fail
 generalize ((w.alloc (.cells #[.slice A n c] 24)).alloc (.cells #[.int .i64 p.1, .string p.2, .string p.3, .string p.4, .string p.5, .int .i64 p.6.1, .string p.6.2, .string p.6.3, .string p.6.4, .string p.6.5, .string p.6.6, .bool p.6.7, .int .i64 p.7, .string p.8, .string p.9] 39)).alloc (.cells #[.slice none 0 0] 24) = w1 at *
 refine (Code.valid_of l A n c HL.out HW.out hn w1 hS1.its true HV.out).mono ?_
 rintro e w2 ⟨rfl, hbq⟩
 have hS2 := hS1.below hbq
 have hb2 := bnext hb1 hbq
 have hsz : w.heap.size + 3 ≤ w2.heap.size := by have := hbq.size; have := HS.out; omega
 clear hbq hS1 hb1 c1 HS
 have hL2 := hide (range_of hS2.r2 0 [.int .i64 p.1, .string p.2, .string p.3, .string p.4, .string p.5, .int .i64 p.6.1, .string p.6.2, .string p.6.3, .string p.6.4, .string p.6.5, .string p.6.6, .bool p.6.7, .int .i64 p.7, .string p.8, .string p.9] rfl)
 go_wp2_with (refine wpList_load_midW 39 (.tmp 3) rfl (by rfl) (w.heap.size + 1) 0 rfl _ _ hL2.out Try.underlying39 rfl (by kernel_rfl) ?_)
 clear hL2
 refine (formed_of p HP.out H2.out true HF.out w2).mono ?_
 rintro e w3 ⟨rfl, hbq⟩
 have hS3 := hS2.below hbq
 have hb3 := bnext hb2 hbq
 have hsz3 : w.heap.size + 3 ≤ w3.heap.size := by have := hbq.size; omega
 clear hbq hS2 hb2 hsz
 have HSK := hide (fun X (hX : Below w3.heap.size w3 X) => hS3.below hX)
 go_upto_region 3 with (fail)
 go_cut [6] from 18 to 24 (fun v6 wx => ∃ b6 : Nat, v6 = .pointer (some ⟨b6, 0, none⟩) ∧ w3.heap.size ≤ b6 ∧ wx.heap[b6]? = some (.cells #[.slice A n c, .int .i64 p.1, .string p.2, .string p.3, .string p.4, .string p.5, .int .i64 p.6.1, .string p.6.2, .string p.6.3, .string p.6.4, .string p.6.5, .string p.6.6, .bool p.6.7, .int .i64 p.7, .string p.8, .string p.9, .int .i64 i] 68 (0, 0)) ∧ Below w3.heap.size w3 wx)
 case first =>
  refine wp_region_noPanic ?_
  refine wp_region_L (Below w3.heap.size w3) 9 hmx ?_
  have hH0 : (Below w3.heap.size w3) w3.drew := (Below.refl w3.heap.size w3).drew
  generalize w3.drew = u0 at *
  refine tkY 0 11 ?_ rfl ?_ hH0 ?_
  rotate_left
  ·intro wS hS; have c1 := iCells0 (HSK.out _ hS).r1; go_simp; (try with_reducible rfl)
  simp only [Act.put, pu1, pu2, pu3, pu4, pu5, pu6]
  refine tkV 1 11 (.agg #[.int .i64 p.1, .string p.2, .string p.3, .string p.4, .string p.5, .int .i64 p.6.1, .string p.6.2, .string p.6.3, .string p.6.4, .string p.6.5, .string p.6.6, .bool p.6.7, .int .i64 p.7, .string p.8, .string p.9]) rfl (by exact yieldsIf_load_mid (by rfl) 39 (.tmp 3) rfl (w.heap.size + 1) 0 rfl [.int .i64 p.1, .string p.2, .string p.3, .string p.4, .string p.5, .int .i64 p.6.1, .string p.6.2, .string p.6.3, .string p.6.4, .string p.6.5, .string p.6.6, .bool p.6.7, .int .i64 p.7, .string p.8, .string p.9] _ (fun X hX => range_of (HSK.out X hX).r2 0 [.int .i64 p.1, .string p.2, .string p.3, .string p.4, .string p.5, .int .i64 p.6.1, .string p.6.2, .string p.6.3, .string p.6.4, .string p.6.5, .string p.6.6, .bool p.6.7, .int .i64 p.7, .string p.8, .string p.9] rfl) Try.underlying39 rfl (by kernel_rfl)) hH0 ?_
  simp only [Act.put, pu1, pu2, pu3, pu4, pu5, pu6]
  refine tkY 2 11 ?_ rfl ?_ hH0 ?_
  rotate_left
  ·intro wS hS; have c1 := iCells0 (HSK.out _ hS).r1; go_simp; (try with_reducible rfl)
  simp only [Act.put, pu1, pu2, pu3, pu4, pu5, pu6]
  refine tkY 3 11 ?_ rfl ?_ hH0 ?_
  rotate_left
  ·intro wS hS; go_simp; (try with_reducible rfl)
  simp only [Act.put, pu1, pu2, pu3, pu4, pu5, pu6]
  refine tkY 4 11 ?_ rfl ?_ hH0 ?_
  rotate_left
  ·intro wS hS; have k1 := (jC15 (HSK.out _ hS).r2).2.1; go_simp; (try with_reducible rfl)
  simp only [Act.put, pu1, pu2, pu3, pu4, pu5, pu6]
  refine wpAnyL_duo (i := 5) (j := 7) (by decide +kernel) (by rfl) (by rfl) (fun K hK => ?_) (fun K hK => ?_)
  ·rw [if_pos (by rfl)]
   go_simp
   refine (Code.find_of l A n c HL.out hn p.id u0 (HSK.out _ hH0).its (i : Int) HK0.out).mono ?_
   rintro e u1 ⟨rfl, hx1⟩
   have hH1 := hH0.trans (hx1.mono hH0.size)
   refine hK.out _ _ (Or.inr hH1) ?_
   clear hK K hx1
   try simp only [Act.put, pu1, pu2, pu3, pu4, pu5, pu6]
   refine tkY 6 11 ?_ rfl ?_ hH1 ?_
   rotate_left
   ·intro wS hS; go_simp; (try with_reducible rfl)
   simp only [Act.put, pu1, pu2, pu3, pu4, pu5, pu6]
   refine onY 7 (by rfl) fun K hK => ?_
   go_simp
   have hx2 := Below.news (Below.refl u1.heap.size u1) (.cells #[.slice none 0 0, .int .i64 0, .string ⟨#[]⟩, .string ⟨#[]⟩, .string ⟨#[]⟩, .string ⟨#[]⟩, .int .i64 0, .string ⟨#[]⟩, .string ⟨#[]⟩, .string ⟨#[]⟩, .string ⟨#[]⟩, .string ⟨#[]⟩, .bool false, .int .i64 0, .string ⟨#[]⟩, .string ⟨#[]⟩, .int .i64 0] 68)
   have hr2 := heap_alloc_new u1 (.cells #[.slice none 0 0, .int .i64 0, .string ⟨#[]⟩, .string ⟨#[]⟩, .string ⟨#[]⟩, .string ⟨#[]⟩, .int .i64 0, .string ⟨#[]⟩, .string ⟨#[]⟩, .string ⟨#[]⟩, .string ⟨#[]⟩, .string ⟨#[]⟩, .bool false, .int .i64 0, .string ⟨#[]⟩, .string ⟨#[]⟩, .int .i64 0] 68)
   have hg2 : w3.heap.size ≤ u1.heap.size := hH1.size
   have hH2 := hH1.trans (hx2.mono hH1.size)
   refine hK.out _ _ (Or.inr hH2) ?_
   clear hK K hx2
   try simp only [Act.put, pu1, pu2, pu3, pu4, pu5, pu6]
   generalize u1.alloc (.cells #[.slice none 0 0, .int .i64 0, .string ⟨#[]⟩, .string ⟨#[]⟩, .string ⟨#[]⟩, .string ⟨#[]⟩, .int .i64 0, .string ⟨#[]⟩, .string ⟨#[]⟩, .string ⟨#[]⟩, .string ⟨#[]⟩, .string ⟨#[]⟩, .bool false, .int .i64 0, .string ⟨#[]⟩, .string ⟨#[]⟩, .int .i64 0] 68) = u2 at *
   generalize u1.heap.size = g2 at *
   refine onY 8 (by rfl) fun K hK => ?_
   have hst := store_part (ty := 68) u2 g2 0 #[.slice none 0 0, .int .i64 0, .string ⟨#[]⟩, .string ⟨#[]⟩, .string ⟨#[]⟩, .string ⟨#[]⟩, .int .i64 0, .string ⟨#[]⟩, .string ⟨#[]⟩, .string ⟨#[]⟩, .string ⟨#[]⟩, .string ⟨#[]⟩, .bool false, .int .i64 0, .string ⟨#[]⟩, .string ⟨#[]⟩, .int .i64 0] (.agg #[.slice A n c, .int .i64 p.1, .string p.2, .string p.3, .string p.4, .string p.5, .int .i64 p.6.1, .string p.6.2, .string p.6.3, .string p.6.4, .string p.6.5, .string p.6.6, .bool p.6.7, .int .i64 p.7, .string p.8, .string p.9, .int .i64 i]) #[.slice A n c, .int .i64 p.1, .string p.2, .string p.3, .string p.4, .string p.5, .int .i64 p.6.1, .string p.6.2, .string p.6.3, .string p.6.4, .string p.6.5, .string p.6.6, .bool p.6.7, .int .i64 p.7, .string p.8, .string p.9, .int .i64 i] hr2 infoCh17 (Nat.le_refl _) (one_change A n c p (i : Int)) rfl
   go_simp
   clear hst
   have hr3 := setRow_heap u2 g2 _ #[.slice A n c, .int .i64 p.1, .string p.2, .string p.3, .string p.4, .string p.5, .int .i64 p.6.1, .string p.6.2, .string p.6.3, .string p.6.4, .string p.6.5, .string p.6.6, .bool p.6.7, .int .i64 p.7, .string p.8, .string p.9, .int .i64 i] _ _ hr2
   have hH3 := below_setRow hH2 hg2 (g := g2) #[.slice A n c, .int .i64 p.1, .string p.2, .string p.3, .string p.4, .string p.5, .int .i64 p.6.1, .string p.6.2, .string p.6.3, .string p.6.4, .string p.6.5, .string p.6.6, .bool p.6.7, .int .i64 p.7, .string p.8, .string p.9, .int .i64 i]
   refine hK.out _ _ (Or.inr hH3) ?_
   clear hK K
   try simp only [Act.put, pu1, pu2, pu3, pu4, pu5, pu6]
   refine dnY ?_
   go_wp2_with fail
   go_meet
   case rel => exact ⟨g2, rfl, hg2, hr3, hH3⟩
  ·rw [if_pos (by rfl)]
   go_simp
   have hx2 := Below.news (Below.refl u0.heap.size u0) (.cells #[.slice none 0 0, .int .i64 0, .string ⟨#[]⟩, .string ⟨#[]⟩, .string ⟨#[]⟩, .string ⟨#[]⟩, .int .i64 0, .string ⟨#[]⟩, .string ⟨#[]⟩, .string ⟨#[]⟩, .string ⟨#[]⟩, .string ⟨#[]⟩, .bool false, .int .i64 0, .string ⟨#[]⟩, .string ⟨#[]⟩, .int .i64 0] 68)
   have hr1 := heap_alloc_new u0 (.cells #[.slice none 0 0, .int .i64 0, .string ⟨#[]⟩, .string ⟨#[]⟩, .string ⟨#[]⟩, .string ⟨#[]⟩, .int .i64 0, .string ⟨#[]⟩, .string ⟨#[]⟩, .string ⟨#[]⟩, .string ⟨#[]⟩, .string ⟨#[]⟩, .bool false, .int .i64 0, .string ⟨#[]⟩, .string ⟨#[]⟩, .int .i64 0] 68)
   have hg2 : w3.heap.size ≤ u0.heap.size := hH0.size
   have hH1 := hH0.trans (hx2.mono hH0.size)
   refine hK.out _ _ (Or.inr hH1) ?_
   clear hK K hx2
   try simp only [Act.put, pu1, pu2, pu3, pu4, pu5, pu6]
   generalize u0.alloc (.cells #[.slice none 0 0, .int .i64 0, .string ⟨#[]⟩, .string ⟨#[]⟩, .string ⟨#[]⟩, .string ⟨#[]⟩, .int .i64 0, .string ⟨#[]⟩, .string ⟨#[]⟩, .string ⟨#[]⟩, .string ⟨#[]⟩, .string ⟨#[]⟩, .bool false, .int .i64 0, .string ⟨#[]⟩, .string ⟨#[]⟩, .int .i64 0] 68) = u1 at *
   generalize u0.heap.size = g2 at *
   refine onY 5 (by rfl) fun K hK => ?_
   go_simp
   refine (Code.find_of l A n c HL.out hn p.id u1 (HSK.out _ hH1).its (i : Int) HK0.out).mono ?_
   rintro e u2 ⟨rfl, hx1⟩
   have hH2 := hH1.trans (hx1.mono hH1.size)
   have hr2 := iNext hr1 hx1
   refine hK.out _ _ (Or.inr hH2) ?_
   clear hK K hx1
   try simp only [Act.put, pu1, pu2, pu3, pu4, pu5, pu6]
   refine tkY 6 11 ?_ rfl ?_ hH2 ?_
   rotate_left
   ·intro wS hS; go_simp; (try with_reducible rfl)
   simp only [Act.put, pu1, pu2, pu3, pu4, pu5, pu6]
   refine onY 8 (by rfl) fun K hK => ?_
   have hst := store_part (ty := 68) u2 g2 0 #[.slice none 0 0, .int .i64 0, .string ⟨#[]⟩, .string ⟨#[]⟩, .string ⟨#[]⟩, .string ⟨#[]⟩, .int .i64 0, .string ⟨#[]⟩, .string ⟨#[]⟩, .string ⟨#[]⟩, .string ⟨#[]⟩, .string ⟨#[]⟩, .bool false, .int .i64 0, .string ⟨#[]⟩, .string ⟨#[]⟩, .int .i64 0] (.agg #[.slice A n c, .int .i64 p.1, .string p.2, .string p.3, .string p.4, .string p.5, .int .i64 p.6.1, .string p.6.2, .string p.6.3, .string p.6.4, .string p.6.5, .string p.6.6, .bool p.6.7, .int .i64 p.7, .string p.8, .string p.9, .int .i64 i]) #[.slice A n c, .int .i64 p.1, .string p.2, .string p.3, .string p.4, .string p.5, .int .i64 p.6.1, .string p.6.2, .string p.6.3, .string p.6.4, .string p.6.5, .string p.6.6, .bool p.6.7, .int .i64 p.7, .string p.8, .string p.9, .int .i64 i] hr2 infoCh17 (Nat.le_refl _) (one_change A n c p (i : Int)) rfl
   go_simp
   clear hst
   have hr3 := setRow_heap u2 g2 _ #[.slice A n c, .int .i64 p.1, .string p.2, .string p.3, .string p.4, .string p.5, .int .i64 p.6.1, .string p.6.2, .string p.6.3, .string p.6.4, .string p.6.5, .string p.6.6, .bool p.6.7, .int .i64 p.7, .string p.8, .string p.9, .int .i64 i] _ _ hr2
   have hH3 := below_setRow hH2 hg2 (g := g2) #[.slice A n c, .int .i64 p.1, .string p.2, .string p.3, .string p.4, .string p.5, .int .i64 p.6.1, .string p.6.2, .string p.6.3, .string p.6.4, .string p.6.5, .string p.6.6, .bool p.6.7, .int .i64 p.7, .string p.8, .string p.9, .int .i64 i]
   refine hK.out _ _ (Or.inr hH3) ?_
   clear hK K
   try simp only [Act.put, pu1, pu2, pu3, pu4, pu5, pu6]
   refine dnY ?_
   go_wp2_with fail
   go_meet
   case rel => exact ⟨g2, rfl, hg2, hr3, hH3⟩
 case rest =>
  obtain ⟨b6, rfl, hb6, r6, hbw⟩ := hcut
  rename World => wq
  have hS4 := HSK.out _ hbw
  have hb4 := bnext hb3 hbw
  clear hbw HSK hS3 hb3
  have hst := store_new (ty := 71) (T := 71) wq #[.nilFunc, .nilFunc, .nilFunc, .nilFunc, .nilFunc, .nilFunc, .nilFunc, .nilFunc] #[.nilFunc, .func (.func 26) #[] #[], .func (.func 27) #[] #[], .func (.func 28) #[] #[], .func (.func 29) #[] #[], .func (.func 30) #[] #[], .func (.func 30) #[] #[], .func (.func 31) #[] #[]] (by kernel_rfl) rfl (by decide +kernel)
  have hb6q := lt_of_block r6
  go_upto_region 5 with (fail)
  clear hst
  have hbn := Below.news (Below.refl wq.heap.size wq) (.cells #[.nilFunc, .func (.func 26) #[] #[], .func (.func 27) #[] #[], .func (.func 28) #[] #[], .func (.func 29) #[] #[], .func (.func 30) #[] #[], .func (.func 30) #[] #[], .func (.func 31) #[] #[]] 71)
  have r7 := heap_alloc_new wq (.cells #[.nilFunc, .func (.func 26) #[] #[], .func (.func 27) #[] #[], .func (.func 28) #[] #[], .func (.func 29) #[] #[], .func (.func 30) #[] #[], .func (.func 30) #[] #[], .func (.func 31) #[] #[]] 71)
  have hS5 := hS4.below hbn
  have r65 := iNext r6 hbn
  have hb5 := bnext hb4 hbn
  clear hbn hS4 r6 hb4
  obtain ⟨b7, hb7⟩ : ∃ b7, b7 = wq.heap.size := ⟨_, rfl⟩
  rw [← hb7] at r7 hb6q ⊢
  have HB7 := hide hb7
  clear hb7
  generalize wq.alloc (.cells #[.nilFunc, .func (.func 26) #[] #[], .func (.func 27) #[] #[], .func (.func 28) #[] #[], .func (.func 29) #[] #[], .func (.func 30) #[] #[], .func (.func 30) #[] #[], .func (.func 31) #[] #[]] 71) = w5 at *
  clear HB7
  have c0 := (jC15 hS5.r2).1
  have k1 := (jC15 hS5.r2).2.1
  have hL6 := hide (range_of r65 0 [.slice A n c, .int .i64 p.1, .string p.2, .string p.3, .string p.4, .string p.5, .int .i64 p.6.1, .string p.6.2, .string p.6.3, .string p.6.4, .string p.6.5, .string p.6.6, .bool p.6.7, .int .i64 p.7, .string p.8, .string p.9, .int .i64 i] rfl)
  go_wp2_with (with_reducible refine wpList_load_mid rfl 68 (.tmp 6) rfl b6 0 rfl _ _ hL6.out Try.underlying68 rfl (by kernel_rfl) ?_)
  refine (item_of l A n c HL.out hn p (i : Int) p.id w5 hS5.its y HY.out).mono ?_
  rintro e w6 ⟨rfl, hbq⟩
  clear hL6 k1 c0
  have hS6 := hS5.below hbq
  have r66 := iNext r65 hbq
  have r76 := iNext r7 hbq
  have hb6' := bnext hb5 hbq
  clear hbq hS5 r65 r7 hb5
  have hst := store_new (ty := 37) (T := 37) w6 #[.int .i64 0, .string ⟨#[]⟩, .string ⟨#[]⟩, .string ⟨#[]⟩, .string ⟨#[]⟩, .string ⟨#[]⟩, .bool false] #[.int .i64 y.1, .string y.2, .string y.3, .string y.4, .string y.5, .string y.6, .bool y.7] (by kernel_rfl) rfl (all_oneCell_toArray (iLay.one y))
  go_upto_region 7 with (fail)
  clear hst
  have hbn := Below.news (Below.refl w6.heap.size w6) (.cells #[.int .i64 y.1, .string y.2, .string y.3, .string y.4, .string y.5, .string y.6, .bool y.7] 37)
  have r8 := heap_alloc_new w6 (.cells #[.int .i64 y.1, .string y.2, .string y.3, .string y.4, .string y.5, .string y.6, .bool y.7] 37)
  have hS7 := hS6.below hbn
  have r67 := iNext r66 hbn
  have r77 := iNext r76 hbn
  have hb7' := bnext hb6' hbn
  clear hbn hS6 r66 r76 hb6'
  obtain ⟨b8, hb8⟩ : ∃ b8, b8 = w6.heap.size := ⟨_, rfl⟩
  rw [← hb8] at r8 ⊢
  have HB8 := hide hb8
  clear hb8
  generalize w6.alloc (.cells #[.int .i64 y.1, .string y.2, .string y.3, .string y.4, .string y.5, .string y.6, .bool y.7] 37) = w7 at *
  clear HB8
  have c0 := (jC15 hS7.r2).1
  obtain ⟨z0, z1, z2, z3, z4, z5, z6⟩ := iCells r8
  clear z1 z2 z3 z4 z5
  have yg := YG.out
  clear YG
  go_upto_region 14 with (fail)
  clear z0 z6 r8
  clear c0
  have HSK2 := hide (fun X (hX : Below w7.heap.size w7 X) => hS7.below hX)
  have HR6 := hide (fun X (hX : Below w7.heap.size w7 X) => iNext r67 hX)
  have HR7 := hide (fun X (hX : Below w7.heap.size w7 X) => iNext r77 hX)
  have hsz5 := lt_of_block hS7.r3
  refine wp_region_noPanic ?_
  refine wp_region_L (Below w7.heap.size w7) 8 hmx ?_
  have hH0 : (Below w7.heap.size w7) w7.drew := (Below.refl w7.heap.size w7).drew
  generalize w7.drew = u0 at *
  refine tkY 0 12 ?_ rfl ?_ hH0 ?_
  rotate_left
  ·intro wS hS; go_simp; (try with_reducible rfl)
  simp only [Act.put, pu1, pu2, pu3, pu4, pu5, pu6]
  refine tkY 1 12 ?_ rfl ?_ hH0 ?_
  rotate_left
  ·intro wS hS; have c0 := (jC15 (HSK2.out _ hS).r2).1; go_simp; (try with_reducible rfl)
  simp only [Act.put, pu1, pu2, pu3, pu4, pu5, pu6]
  refine tkY 2 12 ?_ rfl ?_ hH0 ?_
  rotate_left
  ·intro wS hS; have hk := HK.out; go_simp; (try with_reducible rfl)
  simp only [Act.put, pu1, pu2, pu3, pu4, pu5, pu6]
  refine tkY 3 12 ?_ rfl ?_ hH0 ?_
  rotate_left
  ·intro wS hS; have cf := cell_of_row _ _ 6 _ _ (0, 0) (HR7.out _ hS); go_simp; (try with_reducible rfl)
  simp only [Act.put, pu1, pu2, pu3, pu4, pu5, pu6]
  refine tkV 4 12 (.agg #[.slice A n c, .int .i64 p.1, .string p.2, .string p.3, .string p.4, .string p.5, .int .i64 p.6.1, .string p.6.2, .string p.6.3, .string p.6.4, .string p.6.5, .string p.6.6, .bool p.6.7, .int .i64 p.7, .string p.8, .string p.9, .int .i64 i]) rfl (by exact yieldsIf_load_mid (by rfl) 68 (.tmp 6) rfl b6 0 rfl [.slice A n c, .int .i64 p.1, .string p.2, .string p.3, .string p.4, .string p.5, .int .i64 p.6.1, .string p.6.2, .string p.6.3, .string p.6.4, .string p.6.5, .string p.6.6, .bool p.6.7, .int .i64 p.7, .string p.8, .string p.9, .int .i64 i] _ (fun X hX => range_of (HR6.out X hX) 0 [.slice A n c, .int .i64 p.1, .string p.2, .string p.3, .string p.4, .string p.5, .int .i64 p.6.1, .string p.6.2, .string p.6.3, .string p.6.4, .string p.6.5, .string p.6.6, .bool p.6.7, .int .i64 p.7, .string p.8, .string p.9, .int .i64 i] rfl) Try.underlying68 rfl (by kernel_rfl)) hH0 ?_
  simp only [Act.put, pu1, pu2, pu3, pu4, pu5, pu6]
  refine onY 5 (by rfl) fun K hK => ?_
  go_simp
  refine (gone_of l A n c HL.out hn p i hil y HYI.out false (by rw [HK.out]; rfl) u0 (HSK2.out _ hH0).its).mono ?_
  rintro e u1 ⟨v', rfl, hO, hx1⟩
  have hH1 := hH0.trans (hx1.mono hH0.size)
  have hszu := hH0.size
  refine hK.out _ _ (Or.inr hH1) ?_
  clear hK K hx1
  try simp only [Act.put, pu1, pu2, pu3, pu4, pu5, pu6]
  refine tkY 6 12 ?_ rfl ?_ hH1 ?_
  rotate_left
  ·intro wS hS; go_simp; (try with_reducible rfl)
  simp only [Act.put, pu1, pu2, pu3, pu4, pu5, pu6]
  refine tkY 7 12 ?_ rfl ?_ hH1 ?_
  rotate_left
  ·intro wS hS; go_simp; (try with_reducible rfl)
  simp only [Act.put, pu1, pu2, pu3, pu4, pu5, pu6]
  refine onY 8 (by rfl) fun K hK => ?_
  obtain ⟨A', c', hv', _, _⟩ := hO.row
  obtain ⟨m', hm'⟩ : ∃ m', (l.set i { y with gone := false }, 0).1.length = m' := ⟨_, rfl⟩
  rw [hm'] at hv'
  clear hm'
  subst hv'
  have hst := store_part (ty := 24) u1 (w.heap.size + 1 + 1) 0 #[.slice none 0 0] (.agg #[.slice A' m' c']) #[.slice A' m' c'] (HSK2.out _ hH1).r3 infoCode1 (Nat.le_refl _) (one_code _ _ _) rfl
  have r25 := setRow_heap u1 (w.heap.size + 1 + 1) _ #[.slice A' m' c'] _ _ (HSK2.out _ hH1).r3
  have hb8 := below_setRow (bnext hb7' hH1) (by omega) (g := w.heap.size + 1 + 1) #[.slice A' m' c']
  have HO2 := hide (own_other hO (g := w.heap.size + 1 + 1) (fun e => by have := (World.ownsRow.lt hO _ e).1; omega) #[.slice A' m' c'])
  go_simp
  clear hst hO
  refine hK.out _ _ (Or.inl (by rfl)) ?_
  clear hK K hH1
  generalize u1.setRow (w.heap.size + 1 + 1) #[.slice A' m' c'] = u2 at *
  try simp only [Act.put, pu1, pu2, pu3, pu4, pu5, pu6]
  refine onY 9 (by rfl) fun K hK => ?_
  go_simp
  refine hK.out _ _ (Or.inl (by rfl)) ?_
  clear hK K
  try simp only [Act.put, pu1, pu2, pu3, pu4, pu5, pu6]
  refine dnY ?_
  have hsz0 : w.heap.size ≤ u0.heap.size := by have := hH0.size; omega
  go_wp2
  refine bodyPost_ret (results_c8 Try.results11 _ _ (w.heap.size + 1 + 1) 24 #[.slice A' m' c'] (0, 0) _ rfl r25 Try.underlying24 (by kernel_rfl)) rfl ⟨_, rfl, own_weak HO2.out (by omega), hb8⟩
set_option maxRecDepth 100000 in
set_option maxHeartbeats 8000000 in
attribute [-go_sem] Instr.storeAt in
theorem apply_move (l : List Dg.It) (b off : Nat) (n c : Nat) (hl : l.length = n) (hn : n ≤ 1048576) (hnc : n ≤ c) (hw : ∀ x ∈ l, ItW x) (p : Dg.Pt) (hp : PtW p) (h2 : p.kind ≠ 2) (hv : Dg.validC l = true) (y : Dg.It) (hy : Dg.itemA l p.id = y) (hf : Dg.formedP p = true) (i : Nat) (hi : Dg.idxI l p.id = some i) (hk : p.kind = 4) (y0 : (y.kind == 0) = false) (yg : y.gone = false)  (w : World) (hI : Its w w.heap.size (some ⟨b, off, none⟩) l) :
  Calls Try.prog 11 #[.agg #[.slice (some ⟨b, off, none⟩) n c], .agg #[.int .i64 p.1, .string p.2, .string p.3, .string p.4, .string p.5, .int .i64 p.6.1, .string p.6.2, .string p.6.3, .string p.6.4, .string p.6.5, .string p.6.6, .bool p.6.7, .int .i64 p.7, .string p.8, .string p.9]] w (ApR (Dg.moveP l p i (l.getD i Dg.zeroI)) w) := by
 obtain ⟨r1, r2, r3, hb1, hs⟩ := iAlloc3 w (.cells #[.slice (some ⟨b, off, none⟩) n c] 24) (.cells #[.int .i64 p.1, .string p.2, .string p.3, .string p.4, .string p.5, .int .i64 p.6.1, .string p.6.2, .string p.6.3, .string p.6.4, .string p.6.5, .string p.6.6, .bool p.6.7, .int .i64 p.7, .string p.8, .string p.9] 39) (.cells #[.slice none 0 0] 24)
 have hS1 : ApS w.heap.size (some ⟨b, off, none⟩) n c l p (((w.alloc (.cells #[.slice (some ⟨b, off, none⟩) n c] 24)).alloc (.cells #[.int .i64 p.1, .string p.2, .string p.3, .string p.4, .string p.5, .int .i64 p.6.1, .string p.6.2, .string p.6.3, .string p.6.4, .string p.6.5, .string p.6.6, .bool p.6.7, .int .i64 p.7, .string p.8, .string p.9] 39)).alloc (.cells #[.slice none 0 0] 24)) := ⟨r1, r2, r3, hI.keep hb1⟩
 have hmx : Try.prog.follows .mixedOrders = true := by kernel_rfl
 have HK := hide hk
 have k1 : (p.kind != 1) = true := by rw [hk]; rfl
 have k3 : (p.kind != 3) = true := by rw [hk]; rfl
 have k4 : (p.kind != 4) = false := by rw [hk]; rfl
 have k6 : (p.kind == 6) = false := by rw [hk]; rfl
 have k6n : (p.kind != 6) = true := by rw [hk]; rfl
 have hil : i < n := by obtain ⟨h, _⟩ := Dg.idxI_some hi; omega
 have hyi : l.getD i Dg.zeroI = y := by rw [← hy]; unfold Dg.itemA; rw [hi]
 have HK0 := hide (findX_idx hi); have HIX := hide hi; have HYI := hide hyi; have HY := hide hy; have YG := hide yg
 clear hk hyi hi hy yg
 have HS := hide hs; have HL := hide hl; have HW := hide hw; have HP := hide hp; have H2 := hide h2; have HV := hide hv
 clear r1 r2 r3 hs hI hl hw hp h2 hv
 have HF := hide hf
 clear hf
 have c1 := iCells0 hS1.r1
 go_enter Try.func11, Try.ntmps11
 go_wp2_with fail
 generalize ((w.alloc (.cells #[.slice (some ⟨b, off, none⟩) n c] 24)).alloc (.cells #[.int .i64 p.1, .string p.2, .string p.3, .string p.4, .string p.5, .int .i64 p.6.1, .string p.6.2, .string p.6.3, .string p.6.4, .string p.6.5, .string p.6.6, .bool p.6.7, .int .i64 p.7, .string p.8, .string p.9] 39)).alloc (.cells #[.slice none 0 0] 24) = w1 at *
 refine (Code.valid_of l (some ⟨b, off, none⟩) n c HL.out HW.out hn w1 hS1.its true HV.out).mono ?_
 rintro e w2 ⟨rfl, hbq⟩
 have hS2 := hS1.below hbq
 have hb2 := bnext hb1 hbq
 have hsz : w.heap.size + 3 ≤ w2.heap.size := by have := hbq.size; have := HS.out; omega
 clear hbq hS1 hb1 c1 HS
 have hL2 := hide (range_of hS2.r2 0 [.int .i64 p.1, .string p.2, .string p.3, .string p.4, .string p.5, .int .i64 p.6.1, .string p.6.2, .string p.6.3, .string p.6.4, .string p.6.5, .string p.6.6, .bool p.6.7, .int .i64 p.7, .string p.8, .string p.9] rfl)
 go_wp2_with (refine wpList_load_midW 39 (.tmp 3) rfl (by rfl) (w.heap.size + 1) 0 rfl _ _ hL2.out Try.underlying39 rfl (by kernel_rfl) ?_)
 clear hL2
 refine (formed_of p HP.out H2.out true HF.out w2).mono ?_
 rintro e w3 ⟨rfl, hbq⟩
 have hS3 := hS2.below hbq
 have hb3 := bnext hb2 hbq
 have hsz3 : w.heap.size + 3 ≤ w3.heap.size := by have := hbq.size; omega
 clear hbq hS2 hb2 hsz
 have HSK := hide (fun X (hX : Below w3.heap.size w3 X) => hS3.below hX)
 go_upto_region 3 with (fail)
 go_cut [6] from 18 to 24 (fun v6 wx => ∃ b6 : Nat, v6 = .pointer (some ⟨b6, 0, none⟩) ∧ w3.heap.size ≤ b6 ∧ wx.heap[b6]? = some (.cells #[.slice (some ⟨b, off, none⟩) n c, .int .i64 p.1, .string p.2, .string p.3, .string p.4, .string p.5, .int .i64 p.6.1, .string p.6.2, .string p.6.3, .string p.6.4, .string p.6.5, .string p.6.6, .bool p.6.7, .int .i64 p.7, .string p.8, .string p.9, .int .i64 i] 68 (0, 0)) ∧ Below w3.heap.size w3 wx)
 case first =>
  refine wp_region_noPanic ?_
  refine wp_region_L (Below w3.heap.size w3) 9 hmx ?_
  have hH0 : (Below w3.heap.size w3) w3.drew := (Below.refl w3.heap.size w3).drew
  generalize w3.drew = u0 at *
  refine tkY 0 11 ?_ rfl ?_ hH0 ?_
  rotate_left
  ·intro wS hS; have c1 := iCells0 (HSK.out _ hS).r1; go_simp; (try with_reducible rfl)
  simp only [Act.put, pu1, pu2, pu3, pu4, pu5, pu6]
  refine tkV 1 11 (.agg #[.int .i64 p.1, .string p.2, .string p.3, .string p.4, .string p.5, .int .i64 p.6.1, .string p.6.2, .string p.6.3, .string p.6.4, .string p.6.5, .string p.6.6, .bool p.6.7, .int .i64 p.7, .string p.8, .string p.9]) rfl (by exact yieldsIf_load_mid (by rfl) 39 (.tmp 3) rfl (w.heap.size + 1) 0 rfl [.int .i64 p.1, .string p.2, .string p.3, .string p.4, .string p.5, .int .i64 p.6.1, .string p.6.2, .string p.6.3, .string p.6.4, .string p.6.5, .string p.6.6, .bool p.6.7, .int .i64 p.7, .string p.8, .string p.9] _ (fun X hX => range_of (HSK.out X hX).r2 0 [.int .i64 p.1, .string p.2, .string p.3, .string p.4, .string p.5, .int .i64 p.6.1, .string p.6.2, .string p.6.3, .string p.6.4, .string p.6.5, .string p.6.6, .bool p.6.7, .int .i64 p.7, .string p.8, .string p.9] rfl) Try.underlying39 rfl (by kernel_rfl)) hH0 ?_
  simp only [Act.put, pu1, pu2, pu3, pu4, pu5, pu6]
  refine tkY 2 11 ?_ rfl ?_ hH0 ?_
  rotate_left
  ·intro wS hS; have c1 := iCells0 (HSK.out _ hS).r1; go_simp; (try with_reducible rfl)
  simp only [Act.put, pu1, pu2, pu3, pu4, pu5, pu6]
  refine tkY 3 11 ?_ rfl ?_ hH0 ?_
  rotate_left
  ·intro wS hS; go_simp; (try with_reducible rfl)
  simp only [Act.put, pu1, pu2, pu3, pu4, pu5, pu6]
  refine tkY 4 11 ?_ rfl ?_ hH0 ?_
  rotate_left
  ·intro wS hS; have k1 := (jC15 (HSK.out _ hS).r2).2.1; go_simp; (try with_reducible rfl)
  simp only [Act.put, pu1, pu2, pu3, pu4, pu5, pu6]
  refine wpAnyL_duo (i := 5) (j := 7) (by decide +kernel) (by rfl) (by rfl) (fun K hK => ?_) (fun K hK => ?_)
  ·rw [if_pos (by rfl)]
   go_simp
   refine (Code.find_of l (some ⟨b, off, none⟩) n c HL.out hn p.id u0 (HSK.out _ hH0).its (i : Int) HK0.out).mono ?_
   rintro e u1 ⟨rfl, hx1⟩
   have hH1 := hH0.trans (hx1.mono hH0.size)
   refine hK.out _ _ (Or.inr hH1) ?_
   clear hK K hx1
   try simp only [Act.put, pu1, pu2, pu3, pu4, pu5, pu6]
   refine tkY 6 11 ?_ rfl ?_ hH1 ?_
   rotate_left
   ·intro wS hS; go_simp; (try with_reducible rfl)
   simp only [Act.put, pu1, pu2, pu3, pu4, pu5, pu6]
   refine onY 7 (by rfl) fun K hK => ?_
   go_simp
   have hx2 := Below.news (Below.refl u1.heap.size u1) (.cells #[.slice none 0 0, .int .i64 0, .string ⟨#[]⟩, .string ⟨#[]⟩, .string ⟨#[]⟩, .string ⟨#[]⟩, .int .i64 0, .string ⟨#[]⟩, .string ⟨#[]⟩, .string ⟨#[]⟩, .string ⟨#[]⟩, .string ⟨#[]⟩, .bool false, .int .i64 0, .string ⟨#[]⟩, .string ⟨#[]⟩, .int .i64 0] 68)
   have hr2 := heap_alloc_new u1 (.cells #[.slice none 0 0, .int .i64 0, .string ⟨#[]⟩, .string ⟨#[]⟩, .string ⟨#[]⟩, .string ⟨#[]⟩, .int .i64 0, .string ⟨#[]⟩, .string ⟨#[]⟩, .string ⟨#[]⟩, .string ⟨#[]⟩, .string ⟨#[]⟩, .bool false, .int .i64 0, .string ⟨#[]⟩, .string ⟨#[]⟩, .int .i64 0] 68)
   have hg2 : w3.heap.size ≤ u1.heap.size := hH1.size
   have hH2 := hH1.trans (hx2.mono hH1.size)
   refine hK.out _ _ (Or.inr hH2) ?_
   clear hK K hx2
   try simp only [Act.put, pu1, pu2, pu3, pu4, pu5, pu6]
   generalize u1.alloc (.cells #[.slice none 0 0, .int .i64 0, .string ⟨#[]⟩, .string ⟨#[]⟩, .string ⟨#[]⟩, .string ⟨#[]⟩, .int .i64 0, .string ⟨#[]⟩, .string ⟨#[]⟩, .string ⟨#[]⟩, .string ⟨#[]⟩, .string ⟨#[]⟩, .bool false, .int .i64 0, .string ⟨#[]⟩, .string ⟨#[]⟩, .int .i64 0] 68) = u2 at *
   generalize u1.heap.size = g2 at *
   refine onY 8 (by rfl) fun K hK => ?_
   have hst := store_part (ty := 68) u2 g2 0 #[.slice none 0 0, .int .i64 0, .string ⟨#[]⟩, .string ⟨#[]⟩, .string ⟨#[]⟩, .string ⟨#[]⟩, .int .i64 0, .string ⟨#[]⟩, .string ⟨#[]⟩, .string ⟨#[]⟩, .string ⟨#[]⟩, .string ⟨#[]⟩, .bool false, .int .i64 0, .string ⟨#[]⟩, .string ⟨#[]⟩, .int .i64 0] (.agg #[.slice (some ⟨b, off, none⟩) n c, .int .i64 p.1, .string p.2, .string p.3, .string p.4, .string p.5, .int .i64 p.6.1, .string p.6.2, .string p.6.3, .string p.6.4, .string p.6.5, .string p.6.6, .bool p.6.7, .int .i64 p.7, .string p.8, .string p.9, .int .i64 i]) #[.slice (some ⟨b, off, none⟩) n c, .int .i64 p.1, .string p.2, .string p.3, .string p.4, .string p.5, .int .i64 p.6.1, .string p.6.2, .string p.6.3, .string p.6.4, .string p.6.5, .string p.6.6, .bool p.6.7, .int .i64 p.7, .string p.8, .string p.9, .int .i64 i] hr2 infoCh17 (Nat.le_refl _) (one_change (some ⟨b, off, none⟩) n c p (i : Int)) rfl
   go_simp
   clear hst
   have hr3 := setRow_heap u2 g2 _ #[.slice (some ⟨b, off, none⟩) n c, .int .i64 p.1, .string p.2, .string p.3, .string p.4, .string p.5, .int .i64 p.6.1, .string p.6.2, .string p.6.3, .string p.6.4, .string p.6.5, .string p.6.6, .bool p.6.7, .int .i64 p.7, .string p.8, .string p.9, .int .i64 i] _ _ hr2
   have hH3 := below_setRow hH2 hg2 (g := g2) #[.slice (some ⟨b, off, none⟩) n c, .int .i64 p.1, .string p.2, .string p.3, .string p.4, .string p.5, .int .i64 p.6.1, .string p.6.2, .string p.6.3, .string p.6.4, .string p.6.5, .string p.6.6, .bool p.6.7, .int .i64 p.7, .string p.8, .string p.9, .int .i64 i]
   refine hK.out _ _ (Or.inr hH3) ?_
   clear hK K
   try simp only [Act.put, pu1, pu2, pu3, pu4, pu5, pu6]
   refine dnY ?_
   go_wp2_with fail
   go_meet
   case rel => exact ⟨g2, rfl, hg2, hr3, hH3⟩
  ·rw [if_pos (by rfl)]
   go_simp
   have hx2 := Below.news (Below.refl u0.heap.size u0) (.cells #[.slice none 0 0, .int .i64 0, .string ⟨#[]⟩, .string ⟨#[]⟩, .string ⟨#[]⟩, .string ⟨#[]⟩, .int .i64 0, .string ⟨#[]⟩, .string ⟨#[]⟩, .string ⟨#[]⟩, .string ⟨#[]⟩, .string ⟨#[]⟩, .bool false, .int .i64 0, .string ⟨#[]⟩, .string ⟨#[]⟩, .int .i64 0] 68)
   have hr1 := heap_alloc_new u0 (.cells #[.slice none 0 0, .int .i64 0, .string ⟨#[]⟩, .string ⟨#[]⟩, .string ⟨#[]⟩, .string ⟨#[]⟩, .int .i64 0, .string ⟨#[]⟩, .string ⟨#[]⟩, .string ⟨#[]⟩, .string ⟨#[]⟩, .string ⟨#[]⟩, .bool false, .int .i64 0, .string ⟨#[]⟩, .string ⟨#[]⟩, .int .i64 0] 68)
   have hg2 : w3.heap.size ≤ u0.heap.size := hH0.size
   have hH1 := hH0.trans (hx2.mono hH0.size)
   refine hK.out _ _ (Or.inr hH1) ?_
   clear hK K hx2
   try simp only [Act.put, pu1, pu2, pu3, pu4, pu5, pu6]
   generalize u0.alloc (.cells #[.slice none 0 0, .int .i64 0, .string ⟨#[]⟩, .string ⟨#[]⟩, .string ⟨#[]⟩, .string ⟨#[]⟩, .int .i64 0, .string ⟨#[]⟩, .string ⟨#[]⟩, .string ⟨#[]⟩, .string ⟨#[]⟩, .string ⟨#[]⟩, .bool false, .int .i64 0, .string ⟨#[]⟩, .string ⟨#[]⟩, .int .i64 0] 68) = u1 at *
   generalize u0.heap.size = g2 at *
   refine onY 5 (by rfl) fun K hK => ?_
   go_simp
   refine (Code.find_of l (some ⟨b, off, none⟩) n c HL.out hn p.id u1 (HSK.out _ hH1).its (i : Int) HK0.out).mono ?_
   rintro e u2 ⟨rfl, hx1⟩
   have hH2 := hH1.trans (hx1.mono hH1.size)
   have hr2 := iNext hr1 hx1
   refine hK.out _ _ (Or.inr hH2) ?_
   clear hK K hx1
   try simp only [Act.put, pu1, pu2, pu3, pu4, pu5, pu6]
   refine tkY 6 11 ?_ rfl ?_ hH2 ?_
   rotate_left
   ·intro wS hS; go_simp; (try with_reducible rfl)
   simp only [Act.put, pu1, pu2, pu3, pu4, pu5, pu6]
   refine onY 8 (by rfl) fun K hK => ?_
   have hst := store_part (ty := 68) u2 g2 0 #[.slice none 0 0, .int .i64 0, .string ⟨#[]⟩, .string ⟨#[]⟩, .string ⟨#[]⟩, .string ⟨#[]⟩, .int .i64 0, .string ⟨#[]⟩, .string ⟨#[]⟩, .string ⟨#[]⟩, .string ⟨#[]⟩, .string ⟨#[]⟩, .bool false, .int .i64 0, .string ⟨#[]⟩, .string ⟨#[]⟩, .int .i64 0] (.agg #[.slice (some ⟨b, off, none⟩) n c, .int .i64 p.1, .string p.2, .string p.3, .string p.4, .string p.5, .int .i64 p.6.1, .string p.6.2, .string p.6.3, .string p.6.4, .string p.6.5, .string p.6.6, .bool p.6.7, .int .i64 p.7, .string p.8, .string p.9, .int .i64 i]) #[.slice (some ⟨b, off, none⟩) n c, .int .i64 p.1, .string p.2, .string p.3, .string p.4, .string p.5, .int .i64 p.6.1, .string p.6.2, .string p.6.3, .string p.6.4, .string p.6.5, .string p.6.6, .bool p.6.7, .int .i64 p.7, .string p.8, .string p.9, .int .i64 i] hr2 infoCh17 (Nat.le_refl _) (one_change (some ⟨b, off, none⟩) n c p (i : Int)) rfl
   go_simp
   clear hst
   have hr3 := setRow_heap u2 g2 _ #[.slice (some ⟨b, off, none⟩) n c, .int .i64 p.1, .string p.2, .string p.3, .string p.4, .string p.5, .int .i64 p.6.1, .string p.6.2, .string p.6.3, .string p.6.4, .string p.6.5, .string p.6.6, .bool p.6.7, .int .i64 p.7, .string p.8, .string p.9, .int .i64 i] _ _ hr2
   have hH3 := below_setRow hH2 hg2 (g := g2) #[.slice (some ⟨b, off, none⟩) n c, .int .i64 p.1, .string p.2, .string p.3, .string p.4, .string p.5, .int .i64 p.6.1, .string p.6.2, .string p.6.3, .string p.6.4, .string p.6.5, .string p.6.6, .bool p.6.7, .int .i64 p.7, .string p.8, .string p.9, .int .i64 i]
   refine hK.out _ _ (Or.inr hH3) ?_
   clear hK K
   try simp only [Act.put, pu1, pu2, pu3, pu4, pu5, pu6]
   refine dnY ?_
   go_wp2_with fail
   go_meet
   case rel => exact ⟨g2, rfl, hg2, hr3, hH3⟩
 case rest =>
  obtain ⟨b6, rfl, hb6, r6, hbw⟩ := hcut
  rename World => wq
  have hS4 := HSK.out _ hbw
  have hb4 := bnext hb3 hbw
  clear hbw HSK hS3 hb3
  have hst := store_new (ty := 71) (T := 71) wq #[.nilFunc, .nilFunc, .nilFunc, .nilFunc, .nilFunc, .nilFunc, .nilFunc, .nilFunc] #[.nilFunc, .func (.func 26) #[] #[], .func (.func 27) #[] #[], .func (.func 28) #[] #[], .func (.func 29) #[] #[], .func (.func 30) #[] #[], .func (.func 30) #[] #[], .func (.func 31) #[] #[]] (by kernel_rfl) rfl (by decide +kernel)
  have hb6q := lt_of_block r6
  go_upto_region 5 with (fail)
  clear hst
  have hbn := Below.news (Below.refl wq.heap.size wq) (.cells #[.nilFunc, .func (.func 26) #[] #[], .func (.func 27) #[] #[], .func (.func 28) #[] #[], .func (.func 29) #[] #[], .func (.func 30) #[] #[], .func (.func 30) #[] #[], .func (.func 31) #[] #[]] 71)
  have r7 := heap_alloc_new wq (.cells #[.nilFunc, .func (.func 26) #[] #[], .func (.func 27) #[] #[], .func (.func 28) #[] #[], .func (.func 29) #[] #[], .func (.func 30) #[] #[], .func (.func 30) #[] #[], .func (.func 31) #[] #[]] 71)
  have hS5 := hS4.below hbn
  have r65 := iNext r6 hbn
  have hb5 := bnext hb4 hbn
  clear hbn hS4 r6 hb4
  obtain ⟨b7, hb7⟩ : ∃ b7, b7 = wq.heap.size := ⟨_, rfl⟩
  rw [← hb7] at r7 hb6q ⊢
  have HB7 := hide hb7
  clear hb7
  generalize wq.alloc (.cells #[.nilFunc, .func (.func 26) #[] #[], .func (.func 27) #[] #[], .func (.func 28) #[] #[], .func (.func 29) #[] #[], .func (.func 30) #[] #[], .func (.func 30) #[] #[], .func (.func 31) #[] #[]] 71) = w5 at *
  clear HB7
  have c0 := (jC15 hS5.r2).1
  have k1 := (jC15 hS5.r2).2.1
  have hL6 := hide (range_of r65 0 [.slice (some ⟨b, off, none⟩) n c, .int .i64 p.1, .string p.2, .string p.3, .string p.4, .string p.5, .int .i64 p.6.1, .string p.6.2, .string p.6.3, .string p.6.4, .string p.6.5, .string p.6.6, .bool p.6.7, .int .i64 p.7, .string p.8, .string p.9, .int .i64 i] rfl)
  go_wp2_with (with_reducible refine wpList_load_mid rfl 68 (.tmp 6) rfl b6 0 rfl _ _ hL6.out Try.underlying68 rfl (by kernel_rfl) ?_)
  refine (item_of l (some ⟨b, off, none⟩) n c HL.out hn p (i : Int) p.id w5 hS5.its y HY.out).mono ?_
  rintro e w6 ⟨rfl, hbq⟩
  clear hL6 k1 c0
  have hS6 := hS5.below hbq
  have r66 := iNext r65 hbq
  have r76 := iNext r7 hbq
  have hb6' := bnext hb5 hbq
  clear hbq hS5 r65 r7 hb5
  have hst := store_new (ty := 37) (T := 37) w6 #[.int .i64 0, .string ⟨#[]⟩, .string ⟨#[]⟩, .string ⟨#[]⟩, .string ⟨#[]⟩, .string ⟨#[]⟩, .bool false] #[.int .i64 y.1, .string y.2, .string y.3, .string y.4, .string y.5, .string y.6, .bool y.7] (by kernel_rfl) rfl (all_oneCell_toArray (iLay.one y))
  go_upto_region 7 with (fail)
  clear hst
  have hbn := Below.news (Below.refl w6.heap.size w6) (.cells #[.int .i64 y.1, .string y.2, .string y.3, .string y.4, .string y.5, .string y.6, .bool y.7] 37)
  have r8 := heap_alloc_new w6 (.cells #[.int .i64 y.1, .string y.2, .string y.3, .string y.4, .string y.5, .string y.6, .bool y.7] 37)
  have hS7 := hS6.below hbn
  have r67 := iNext r66 hbn
  have r77 := iNext r76 hbn
  have hb7' := bnext hb6' hbn
  clear hbn hS6 r66 r76 hb6'
  obtain ⟨b8, hb8⟩ : ∃ b8, b8 = w6.heap.size := ⟨_, rfl⟩
  rw [← hb8] at r8 ⊢
  have HB8 := hide hb8
  clear hb8
  generalize w6.alloc (.cells #[.int .i64 y.1, .string y.2, .string y.3, .string y.4, .string y.5, .string y.6, .bool y.7] 37) = w7 at *
  clear HB8
  have c0 := (jC15 hS7.r2).1
  obtain ⟨z0, z1, z2, z3, z4, z5, z6⟩ := iCells r8
  clear z1 z2 z3 z4 z5
  have yg := YG.out
  clear YG
  cases y1 : (y.kind == 1)
  all_goals
   go_upto_region 14 with (fail)
   clear z0 z6 r8
   clear c0
   have HSK2 := hide (fun X (hX : Below w7.heap.size w7 X) => hS7.below hX)
   have HR6 := hide (fun X (hX : Below w7.heap.size w7 X) => iNext r67 hX)
   have HR7 := hide (fun X (hX : Below w7.heap.size w7 X) => iNext r77 hX)
   have hsz5 := lt_of_block hS7.r3
   refine wp_region_noPanic ?_
   refine wp_region_L (Below w7.heap.size w7) 8 hmx ?_
   have hH0 : (Below w7.heap.size w7) w7.drew := (Below.refl w7.heap.size w7).drew
   generalize w7.drew = u0 at *
   refine tkY 0 12 ?_ rfl ?_ hH0 ?_
   rotate_left
   ·intro wS hS; go_simp; (try with_reducible rfl)
   simp only [Act.put, pu1, pu2, pu3, pu4, pu5, pu6]
   refine tkY 1 12 ?_ rfl ?_ hH0 ?_
   rotate_left
   ·intro wS hS; have c0 := (jC15 (HSK2.out _ hS).r2).1; go_simp; (try with_reducible rfl)
   simp only [Act.put, pu1, pu2, pu3, pu4, pu5, pu6]
   refine tkY 2 12 ?_ rfl ?_ hH0 ?_
   rotate_left
   ·intro wS hS; have hk := HK.out; go_simp; (try with_reducible rfl)
   simp only [Act.put, pu1, pu2, pu3, pu4, pu5, pu6]
   refine tkY 3 12 ?_ rfl ?_ hH0 ?_
   rotate_left
   ·intro wS hS; have cf := cell_of_row _ _ 4 _ _ (0, 0) (HR7.out _ hS); go_simp; (try with_reducible rfl)
   simp only [Act.put, pu1, pu2, pu3, pu4, pu5, pu6]
   refine tkV 4 12 (.agg #[.slice (some ⟨b, off, none⟩) n c, .int .i64 p.1, .string p.2, .string p.3, .string p.4, .string p.5, .int .i64 p.6.1, .string p.6.2, .string p.6.3, .string p.6.4, .string p.6.5, .string p.6.6, .bool p.6.7, .int .i64 p.7, .string p.8, .string p.9, .int .i64 i]) rfl (by exact yieldsIf_load_mid (by rfl) 68 (.tmp 6) rfl b6 0 rfl [.slice (some ⟨b, off, none⟩) n c, .int .i64 p.1, .string p.2, .string p.3, .string p.4, .string p.5, .int .i64 p.6.1, .string p.6.2, .string p.6.3, .string p.6.4, .string p.6.5, .string p.6.6, .bool p.6.7, .int .i64 p.7, .string p.8, .string p.9, .int .i64 i] _ (fun X hX => range_of (HR6.out X hX) 0 [.slice (some ⟨b, off, none⟩) n c, .int .i64 p.1, .string p.2, .string p.3, .string p.4, .string p.5, .int .i64 p.6.1, .string p.6.2, .string p.6.3, .string p.6.4, .string p.6.5, .string p.6.6, .bool p.6.7, .int .i64 p.7, .string p.8, .string p.9, .int .i64 i] rfl) Try.underlying68 rfl (by kernel_rfl)) hH0 ?_
   simp only [Act.put, pu1, pu2, pu3, pu4, pu5, pu6]
   refine onY 5 (by rfl) fun K hK => ?_
   go_simp
   refine (move_of l b off n c HL.out hn p i HIX.out hnc HW.out HV.out u0 (HSK2.out _ hH0).its).mono ?_
   rintro e u1 ⟨v', rfl, hO, hx1⟩
   have hH1 := hH0.trans (hx1.mono hH0.size)
   have hszu := hH0.size
   refine hK.out _ _ (Or.inr hH1) ?_
   clear hK K hx1
   try simp only [Act.put, pu1, pu2, pu3, pu4, pu5, pu6]
   refine tkY 6 12 ?_ rfl ?_ hH1 ?_
   rotate_left
   ·intro wS hS; go_simp; (try with_reducible rfl)
   simp only [Act.put, pu1, pu2, pu3, pu4, pu5, pu6]
   refine tkY 7 12 ?_ rfl ?_ hH1 ?_
   rotate_left
   ·intro wS hS; go_simp; (try with_reducible rfl)
   simp only [Act.put, pu1, pu2, pu3, pu4, pu5, pu6]
   refine onY 8 (by rfl) fun K hK => ?_
   obtain ⟨A', c', hv', _, _⟩ := hO.row
   obtain ⟨m', hm'⟩ : ∃ m', (Dg.moveP l p i (l.getD i Dg.zeroI)).1.length = m' := ⟨_, rfl⟩
   rw [hm'] at hv'
   clear hm'
   subst hv'
   have hst := store_part (ty := 24) u1 (w.heap.size + 1 + 1) 0 #[.slice none 0 0] (.agg #[.slice A' m' c']) #[.slice A' m' c'] (HSK2.out _ hH1).r3 infoCode1 (Nat.le_refl _) (one_code _ _ _) rfl
   have r25 := setRow_heap u1 (w.heap.size + 1 + 1) _ #[.slice A' m' c'] _ _ (HSK2.out _ hH1).r3
   have hb8 := below_setRow (bnext hb7' hH1) (by omega) (g := w.heap.size + 1 + 1) #[.slice A' m' c']
   have HO2 := hide (own_other hO (g := w.heap.size + 1 + 1) (fun e => by have := (World.ownsRow.lt hO _ e).1; omega) #[.slice A' m' c'])
   go_simp
   clear hst hO
   refine hK.out _ _ (Or.inl (by rfl)) ?_
   clear hK K hH1
   generalize u1.setRow (w.heap.size + 1 + 1) #[.slice A' m' c'] = u2 at *
   try simp only [Act.put, pu1, pu2, pu3, pu4, pu5, pu6]
   refine onY 9 (by rfl) fun K hK => ?_
   go_simp
   refine hK.out _ _ (Or.inl (by rfl)) ?_
   clear hK K
   try simp only [Act.put, pu1, pu2, pu3, pu4, pu5, pu6]
   refine dnY ?_
   have hsz0 : w.heap.size ≤ u0.heap.size := by have := hH0.size; omega
   go_wp2
   refine bodyPost_ret (results_c8 Try.results11 _ _ (w.heap.size + 1 + 1) 24 #[.slice A' m' c'] (0, 0) _ rfl r25 Try.underlying24 (by kernel_rfl)) rfl ⟨_, rfl, own_weak HO2.out (by omega), hb8⟩
end Go.Proofs.Ytgmimhgeigbpkaa

