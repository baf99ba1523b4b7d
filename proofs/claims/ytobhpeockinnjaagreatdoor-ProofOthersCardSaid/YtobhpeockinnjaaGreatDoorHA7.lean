/- Walks and laws of this seat, several texts in one: P23, P24, P10, P25, Post, Open, Open3, CO. No conditions but those that each theorem states. -/
import Derived.Test.YtobhpeockinnjaaGreatDoorHA6
import Derived.Deep.RegionHeld3
import Derived.Below
import Derived.ChangeSame
import Derived.ProofKit
import Derived.OpenShut
import Derived.LaidMore
import Derived.Lay
import Derived.SevenTiedAt
import Derived.Stop.Joined
import Derived.SliceStrings
import Derived.Lib.SmallJoins
import Derived.Deep.Slices
/- head of pandectlaw44. No conditions but those that each theorem states. -/
namespace Go.Proofs.YtobhpeockinnjaaGreatDoor
open Go Go.RowKit Go.Sort Go.Maps
attribute [local go_sem] Oper.semAt_some
theorem exA_leaf : ∀ s ∈ leafS exA, s.size ≤ 10000 := by decide +kernel
theorem Zs.new1 (w : World) (x : Int) : Zs (w.alloc (.cells #[.int .i64 x] 3)) (w.alloc (.cells #[.int .i64 x] 3)).heap.size (some ⟨w.heap.size, 0, none⟩) [x] :=
  ⟨fun _ => ⟨w.heap.size, 0, rfl, by simp, fun j s hj => by
    rw [cell_of_row _ _ _ _ _ (0, 0) (heap_alloc_new w _), Nat.zero_add]
    match j, hj with
    | 0, hj => cases hj; rfl⟩⟩
set_option maxRecDepth 100000 in
theorem item_eql (w : World) (x y : Dg.It) : (binOp .eql 26 (.agg #[.int .i64 x.kind, .string x.id, .string x.parent, .string x.number, .string x.north, .string x.south, .bool x.gone]) (.agg #[.int .i64 y.kind, .string y.id, .string y.parent, .string y.number, .string y.north, .string y.south, .bool y.gone])).run Tryz.prog w = .ok (.bool (sameI x y)) w := by
  have hS : Tryz.prog.underlying 26 = some (.struct (Tryz.prog.fieldsOf 26)) := by kernel_rfl
  have hp : Tryz.prog.stoodInHeld 26 = false := by kernel_rfl
  rw [run_eql_struct, show (10000 : Nat) = 9999 + 1 from rfl, run_equalIn_agg w 9999 26 _ _ hS hp]
  simp only [Program.fieldsOf, Tryz.underlying26]
  have u3 := Tryz.underlying3
  have u4 := Tryz.underlying4
  have u5 := Tryz.underlying9
  have a3 := Tryz.isAgg3
  have a4 := Tryz.isAgg4
  have a5 := Tryz.isAgg9
  have z3 := Tryz.sizeOf3
  have z4 := Tryz.sizeOf4
  have z5 := Tryz.sizeOf9
  go_simp
  unfold sameI
  by_cases h1 : x.kind = y.kind <;> by_cases h2 : x.id.toList = y.id.toList <;> by_cases h3 : x.parent.toList = y.parent.toList <;> by_cases h4 : x.number.toList = y.number.toList <;> by_cases h5 : x.north.toList = y.north.toList <;> by_cases h6 : x.south.toList = y.south.toList <;> by_cases h7 : x.gone = y.gone <;> simp [h1, h2, h3, h4, h5, h6, h7]
set_option maxRecDepth 100000 in
set_option maxHeartbeats 16000000 in
theorem head44_of (w : World) (he : Env w) :
    Calls Tryz.prog 10 #[] w fun e w' => e = .returned (.bool true) ∧ Below w.heap.size w w' := by
  obtain ⟨q, hq⟩ := ex_a
  obtain ⟨qb, hqb⟩ : ∃ p, makeE exL ⟨#[98]⟩ = (p, 16) := ⟨_, Prod.ext rfl ex_b⟩
  obtain ⟨qx, hqx⟩ : ∃ p, makeE exL ⟨#[120]⟩ = (p, 11) := ⟨_, Prod.ext rfl ex_x⟩
  have HCK := hide (show checkP exR ⟨2, 0, exA, [q]⟩ = true by have := ex_chk; rw [hq] at this; exact this)
  have HQZ := hide (show q.size ≤ 1048576 by
    have h9 : ∀ s ∈ (makeE exL ⟨#[97]⟩).1.path, s.size ≤ 1000 := by decide +kernel
    rw [hq] at h9
    exact Nat.le_trans (h9 q (List.mem_singleton.2 rfl)) (by decide))
  have HDL1 := hide (show exD1.length ≤ 1048576 by decide)
  have HDL2 := hide (show exD2.length ≤ 1048576 by decide)
  have HQ := hide hq; have HQB := hide hqb; have HQX := hide hqx
  clear hq hqb hqx
  obtain ⟨L, hL⟩ : ∃ L, Dg.leavesC exL = L := ⟨_, rfl⟩
  have HLL := hide (show L.length = 2 by rw [← hL]; exact ex_len)
  have HLR := hide (show Dg.root L = exR by rw [← hL]; rfl)
  have HLZ := hide (show ∀ s ∈ L, s.size ≤ 1048576 by
    rw [← hL]
    have h9 : ∀ s ∈ Dg.leavesC exL, s.size ≤ 1000 := by decide +kernel
    exact fun s hs => Nat.le_trans (h9 s hs) (by decide))
  have HL := hide hL
  clear hL
  obtain ⟨K, hK⟩ : ∃ K, Dg.publicB offB 0 = K := ⟨_, rfl⟩
  obtain ⟨S1, hS1⟩ : ∃ S, Dg.sigB offB 0 (msgB 5 2 exR) = S := ⟨_, rfl⟩
  obtain ⟨S2, hS2⟩ : ∃ S, Dg.sigB offB 0 (msgB 5 2 exO) = S := ⟨_, rfl⟩
  obtain ⟨S3, hS3⟩ : ∃ S, Dg.sigB othB 0 (msgB 7 2 exR) = S := ⟨_, rfl⟩
  have V1 := hide (show verifyB K (msgB 5 2 exR) 0 S1 [] = true by rw [← hK, ← hS1]; exact ex_v1 _)
  have V2 := hide (show verifyB K (msgB 5 2 exO) 0 S2 [] = true by rw [← hK, ← hS2]; exact ex_v1 _)
  have V3 := hide (show verifyB K (msgB 6 2 exR) 0 S1 [] = false by rw [← hK, ← hS1]; exact ex_v6)
  have V4 := hide (show verifyB K (msgB 7 2 exR) 0 S3 [] = false by rw [← hK, ← hS3]; exact ex_v7)
  have N1 := hide (show S1.length = 18 by rw [← hS1]; exact Dg.sigB_len _ _ _)
  have N2 := hide (show S2.length = 18 by rw [← hS2]; exact Dg.sigB_len _ _ _)
  have N3 := hide (show S3.length = 18 by rw [← hS3]; exact Dg.sigB_len _ _ _)
  have Z1 := hide (show ∀ s ∈ S1, s.size ≤ 1048576 by rw [← hS1]; exact sigB_small _ _ _)
  have Z2 := hide (show ∀ s ∈ S2, s.size ≤ 1048576 by rw [← hS2]; exact sigB_small _ _ _)
  have Z3 := hide (show ∀ s ∈ S3, s.size ≤ 1048576 by rw [← hS3]; exact sigB_small _ _ _)
  have HK := hide hK; have H1 := hide hS1; have H2 := hide hS2; have H3 := hide hS3
  clear hK hS1 hS2 hS3
  have HRZ := hide (show exR.size ≤ 1048576 from Nat.le_trans ex_rsz (by decide))
  have HOZ := hide (show exO.size ≤ 1048576 from Nat.le_trans ex_osz (by decide))
  have HEL := hide (show Dg.emptyB = exO from rfl)
  have HLN1 := hide ex_l1; have HLN2 := hide ex_l2; have HLN3 := hide ex_l3; have HLN4 := hide ex_l4; have HLN5 := hide ex_l5
  have HW1 := hide (ex_w1 (p := ⟨2, 0, exA, [q]⟩) rfl HCK.out)
  have HW2 := hide (ex_w2 ⟨2, 0, exA, [q]⟩)
  have HW3 := hide ex_w3
  have HDD := hide ex_days
  have HFX := hide (fun x hx s hs => Nat.le_trans (exL_fields x hx s hs) (show 100 ≤ 10000 by decide))
  generalize exR = R at *
  generalize exO = O at *
  generalize exD1 = D1 at *
  generalize exD2 = D2 at *
  go_enter Tryz.func10, Tryz.ntmps10
  go_wp2_with fail
  refine (example_of _).mono ?_
  rintro e w1 ⟨d, rfl, hI, hx1⟩
  have hC := KR.new hI
  have hx2 := Below.news (Below.refl w1.heap.size w1) (.cells #[.slice (some ⟨d, 0, none⟩) 3 3] 24)
  have hb := bnext hx1 hx2
  clear hx1 hx2 hI
  have hc := hC.cell
  go_wp2_with fail
  generalize w1.alloc (.cells #[.slice (some ⟨d, 0, none⟩) 3 3] 24) = w2 at *
  generalize w1.heap.size = b1 at *
  refine (Code.leaves_of exL (some ⟨d, 0, none⟩) 3 3 rfl exL_w (by decide) w2 (he.next hb) hC.its (few_up2 HFX.out (by decide)) L HL.out).mono ?_
  rintro e w3 ⟨⟨A3, c3, rfl, hc3, hS3⟩, hx3⟩
  replace hb := bnext hb hx3
  replace hC := hC.next hx3
  clear hx3 hc
  rw [HLL.out] at hc3
  simp only [HLL.out]
  go_wp2_with fail
  refine (root_of 2 A3 c3 L R w3 HLL.out HLR.out (he.next hb) hc3 (by decide) (fun s hs => Nat.le_trans (HLZ.out s hs) (by decide)) hS3).mono ?_
  rintro e w4 ⟨rfl, hx4⟩
  replace hb := bnext hb hx4
  replace hC := hC.next hx4
  clear hx4 hS3 hc3
  have hc := hC.cell
  go_wp2_with fail
  refine (pmake_of exL (some ⟨d, 0, none⟩) 3 3 rfl exL_w (by decide) (by decide) HFX.out ⟨#[97]⟩ w4 (he.next hb) hC.its _ _ HQ.out).mono ?_
  rintro e w5 ⟨A5, c5, rfl, hc5, hS5, hx5⟩
  replace hb := bnext hb hx5
  replace hC := hC.next hx5
  clear hx5 hc
  have hP := PR.new (c := c5) hS5
  have hx6 := Below.news (Below.refl w5.heap.size w5) (.cells #[.int .i64 2, .int .i64 0, .int .i64 2, .string ⟨#[97]⟩, .string ⟨#[]⟩, .string ⟨#[]⟩, .string ⟨#[110]⟩, .string ⟨#[115]⟩, .bool false, .slice A5 1 c5] 29)
  replace hC := hC.next hx6
  have hb6 := bnext hb hx6
  have hc := hC.cell
  clear hx6 hb hS5
  simp only [exA, List.length_cons, List.length_nil, Nat.zero_add] at hc5 ⊢
  go_wp2_with fail
  generalize w5.alloc (.cells #[.int .i64 2, .int .i64 0, .int .i64 2, .string ⟨#[97]⟩, .string ⟨#[]⟩, .string ⟨#[]⟩, .string ⟨#[110]⟩, .string ⟨#[115]⟩, .bool false, .slice A5 1 c5] 29) = w6 at *
  generalize w5.heap.size = p3 at *
  refine (pmake_of exL (some ⟨d, 0, none⟩) 3 3 rfl exL_w (by decide) (by decide) HFX.out ⟨#[98]⟩ w6 (he.next hb6) hC.its _ _ HQB.out).mono ?_
  rintro e w7 ⟨A7, c7, rfl, _, _, hx7⟩
  have hb7 := bnext hb6 hx7
  replace hC := hC.next hx7
  replace hP := hP.next hx7
  clear hx7 hc hb6
  have hx8 := Below.news (Below.refl w7.heap.size w7) (.cells #[.int .i64 qb.count, .int .i64 qb.idx, .int .i64 qb.it.kind, .string qb.it.id, .string qb.it.parent, .string qb.it.number, .string qb.it.north, .string qb.it.south, .bool qb.it.gone, .slice A7 qb.path.length c7] 29)
  have hb8 := bnext hb7 hx8
  replace hC := hC.next hx8
  replace hP := hP.next hx8
  have hc := hC.cell
  clear hx8 hb7
  go_wp2_with fail
  generalize w7.alloc (.cells #[.int .i64 qb.count, .int .i64 qb.idx, .int .i64 qb.it.kind, .string qb.it.id, .string qb.it.parent, .string qb.it.number, .string qb.it.north, .string qb.it.south, .bool qb.it.gone, .slice A7 qb.path.length c7] 29) = w8 at *
  refine (pmake_of exL (some ⟨d, 0, none⟩) 3 3 rfl exL_w (by decide) (by decide) HFX.out ⟨#[120]⟩ w8 (he.next hb8) hC.its _ _ HQX.out).mono ?_
  rintro e w9 ⟨A9, c9, rfl, _, _, hx9⟩
  have hb9 := bnext hb8 hx9
  replace hC := hC.next hx9
  replace hP := hP.next hx9
  clear hx9 hc hb8
  have hx10 := Below.news (Below.refl w9.heap.size w9) (.cells #[.int .i64 qx.count, .int .i64 qx.idx, .int .i64 qx.it.kind, .string qx.it.id, .string qx.it.parent, .string qx.it.number, .string qx.it.north, .string qx.it.south, .bool qx.it.gone, .slice A9 qx.path.length c9] 29)
  have hb10 := bnext hb9 hx10
  replace hC := hC.next hx10
  replace hP := hP.next hx10
  have hc := hC.cell
  clear hx10 hb9
  go_wp2_with fail
  generalize w9.alloc (.cells #[.int .i64 qx.count, .int .i64 qx.idx, .int .i64 qx.it.kind, .string qx.it.id, .string qx.it.parent, .string qx.it.number, .string qx.it.north, .string qx.it.south, .bool qx.it.gone, .slice A9 qx.path.length c9] 29) = w10 at *
  clear hc hC
  refine (signed_of 5 2 R false (by decide) (by decide) (by decide) (by decide) HRZ.out w10 (he.next hb10) K HK.out S1 H1.out).mono ?_
  rintro e w11 ⟨A11, c11, B11, d11, rfl, hc11, hS11, hx11⟩
  have hb11 := bnext hb10 hx11
  replace hP := hP.next hx11
  have hs1 := SR.new (c := c11) (A' := B11) (c' := d11) hS11
  have hx12 := Below.news (Below.refl w11.heap.size w11) (.cells #[.int .i64 0, .slice A11 18 c11, .slice B11 0 d11] 42)
  have hb12 := bnext hb11 hx12
  replace hP := hP.next hx12
  clear hx11 hx12 hb11 hb10 hS11
  go_wp2_with fail
  generalize w11.alloc (.cells #[.int .i64 0, .slice A11 18 c11, .slice B11 0 d11] 42) = w12 at *
  generalize w11.heap.size = s1 at *
  refine (root_nil_of w12 (he.next hb12)).mono ?_
  rintro e w13 ⟨rfl, hx13⟩
  rw [HEL.out]
  have hb13 := bnext hb12 hx13
  replace hP := hP.next hx13
  replace hs1 := hs1.next hx13
  clear hx13 hb12
  go_wp2_with fail
  refine (signed_of 5 2 O false (by decide) (by decide) (by decide) (by decide) HOZ.out w13 (he.next hb13) K HK.out S2 H2.out).mono ?_
  rintro e w14 ⟨A14, c14, B14, d14, rfl, hc14, hS14, hx14⟩
  have hb14 := bnext hb13 hx14
  replace hP := hP.next hx14
  replace hs1 := hs1.next hx14
  have hs2 := SR.new (c := c14) (A' := B14) (c' := d14) hS14
  have hx15 := Below.news (Below.refl w14.heap.size w14) (.cells #[.int .i64 0, .slice A14 18 c14, .slice B14 0 d14] 42)
  have hb15 := bnext hb14 hx15
  replace hP := hP.next hx15
  replace hs1 := hs1.next hx15
  clear hx14 hx15 hb14 hb13 hS14
  go_wp2_with fail
  generalize w14.alloc (.cells #[.int .i64 0, .slice A14 18 c14, .slice B14 0 d14] 42) = w15 at *
  generalize w14.heap.size = s2 at *
  refine (signed_of 7 2 R true (by decide) (by decide) (by decide) (by decide) HRZ.out w15 (he.next hb15) K HK.out S3 H3.out).mono ?_
  rintro e w16 ⟨A16, c16, B16, d16, rfl, hc16, hS16, hx16⟩
  have hb16 := bnext hb15 hx16
  replace hP := hP.next hx16
  replace hs1 := hs1.next hx16
  replace hs2 := hs2.next hx16
  have hs3 := SR.new (c := c16) (A' := B16) (c' := d16) hS16
  have hx17 := Below.news (Below.refl w16.heap.size w16) (.cells #[.int .i64 0, .slice A16 18 c16, .slice B16 0 d16] 42)
  have hb17 := bnext hb16 hx17
  replace hP := hP.next hx17
  replace hs1 := hs1.next hx17
  replace hs2 := hs2.next hx17
  clear hx16 hx17 hb16 hb15 hS16
  go_wp2_with fail
  generalize w16.alloc (.cells #[.int .i64 0, .slice A16 18 c16, .slice B16 0 d16] 42) = w17 at *
  generalize w16.heap.size = s3 at *
  refine (pnew_of K w17).mono ?_
  rintro e w18 ⟨rfl, hR, _, hx18⟩
  have hmb : w.heap.size ≤ w17.heap.size := hb17.size
  have n3 : p3 ≠ w17.heap.size := Nat.ne_of_lt (lt_of_block hP.row)
  have n10 : s1 ≠ w17.heap.size := Nat.ne_of_lt (lt_of_block hs1.row)
  have n13 : s2 ≠ w17.heap.size := Nat.ne_of_lt (lt_of_block hs2.row)
  have n15 : s3 ≠ w17.heap.size := Nat.ne_of_lt (lt_of_block hs3.row)
  have hb18 := bnext hb17 hx18
  replace hP := hP.next hx18
  replace hs1 := hs1.next hx18
  replace hs2 := hs2.next hx18
  replace hs3 := hs3.next hx18
  clear hx18 hb17
  generalize w17.heap.size + 1 = br at *
  generalize w17.heap.size = mb at *
  have HMB := hide hmb; have N3H := hide n3; have N10H := hide n10; have N13H := hide n13; have N15H := hide n15
  clear hmb n3 n10 n13 n15
  have hit := item_eql w18 exA exA
  have hsm := (sameI_iff exA exA).2 rfl
  rw [hsm] at hit
  simp only [exA] at hit
  obtain ⟨z0, z1, z2, z3, z4, z5, z6, z7, z8, z9⟩ := jCells10 hP.row
  go_wp2_with fail
  refine (pcheck_of R ⟨2, 0, exA, [q]⟩ A5 1 c5 rfl (by decide) (fun s hs => by rw [List.mem_singleton.1 hs]; exact HQZ.out) exA_leaf w18 (he.next hb18) hP.strs true HCK.out).mono ?_
  rintro e w19 ⟨rfl, hx19⟩
  have hb19 := bnext hb18 hx19
  replace hP := hP.next hx19
  replace hs1 := hs1.next hx19
  replace hs2 := hs2.next hx19
  replace hs3 := hs3.next hx19
  replace hR := hR.below hx19
  clear hx19 hb18 z0 z1 z2 z3 z4 z5 z6 z7 z8 z9 hit hsm
  have hm := map_row hR.map
  obtain ⟨y0, y1, y2⟩ := jCells3 hs1.row
  go_wp2_with fail
  refine (plearn_of br mb K [] 5 2 R (by decide) (by decide) (by decide) (by decide) HRZ.out (by decide) 0 A11 18 c11 S1 B11 0 d11 [] N1.out Z1.out rfl (fun s hs => by cases hs) hc11 w19 (he.next hb19) hs1.strs ⟨fun h => by simp at h⟩ hR true V1.out 0 D1 HLN1.out).mono ?_
  rintro e w20 ⟨rfl, hR2, ho⟩
  have hb20 := hb19.trans (ho.below (B := w.heap.size) hb19.size (by simpa using HMB.out))
  replace hP := hP.learn hm ho N3H.out
  replace hs1 := hs1.learn hm ho N10H.out
  replace hs2 := hs2.learn hm ho N13H.out
  replace hs3 := hs3.learn hm ho N15H.out
  clear y0 y1 y2 hm hR ho hb19
  have hR := hR2
  clear hR2
  have hm := map_row hR.map
  obtain ⟨y0, y1, y2⟩ := jCells3 hs1.row
  go_wp2_with fail
  refine (plearn_of br mb K D1 5 2 R (by decide) (by decide) (by decide) (by decide) HRZ.out HDL1.out 0 A11 18 c11 S1 B11 0 d11 [] N1.out Z1.out rfl (fun s hs => by cases hs) hc11 w20 (he.next hb20) hs1.strs ⟨fun h => by simp at h⟩ hR true V1.out 0 D2 HLN2.out).mono ?_
  rintro e w21 ⟨rfl, hR2, ho⟩
  have hb21 := hb20.trans (ho.below (B := w.heap.size) hb20.size (by simpa using HMB.out))
  replace hP := hP.learn hm ho N3H.out
  replace hs1 := hs1.learn hm ho N10H.out
  replace hs2 := hs2.learn hm ho N13H.out
  replace hs3 := hs3.learn hm ho N15H.out
  clear y0 y1 y2 hm hR ho hb20
  have hR := hR2
  clear hR2
  have hm := map_row hR.map
  obtain ⟨y0, y1, y2⟩ := jCells3 hs2.row
  go_wp2_with fail
  refine (plearn_of br mb K D2 5 2 O (by decide) (by decide) (by decide) (by decide) HOZ.out HDL2.out 0 A14 18 c14 S2 B14 0 d14 [] N2.out Z2.out rfl (fun s hs => by cases hs) hc14 w21 (he.next hb21) hs2.strs ⟨fun h => by simp at h⟩ hR true V2.out 23 D2 HLN3.out).mono ?_
  rintro e w22 ⟨rfl, hR2, ho⟩
  have hb22 := hb21.trans (ho.below (B := w.heap.size) hb21.size (by simpa using HMB.out))
  replace hP := hP.learn hm ho N3H.out
  replace hs1 := hs1.learn hm ho N10H.out
  replace hs2 := hs2.learn hm ho N13H.out
  replace hs3 := hs3.learn hm ho N15H.out
  clear y0 y1 y2 hm hR ho hb21
  have hR := hR2
  clear hR2
  have hm := map_row hR.map
  obtain ⟨y0, y1, y2⟩ := jCells3 hs1.row
  go_wp2_with fail
  refine (plearn_of br mb K D2 6 2 R (by decide) (by decide) (by decide) (by decide) HRZ.out HDL2.out 0 A11 18 c11 S1 B11 0 d11 [] N1.out Z1.out rfl (fun s hs => by cases hs) hc11 w22 (he.next hb22) hs1.strs ⟨fun h => by simp at h⟩ hR false V3.out 19 D2 HLN4.out).mono ?_
  rintro e w23 ⟨rfl, hR2, ho⟩
  have hb23 := hb22.trans (ho.below (B := w.heap.size) hb22.size (by simpa using HMB.out))
  replace hP := hP.learn hm ho N3H.out
  replace hs1 := hs1.learn hm ho N10H.out
  replace hs2 := hs2.learn hm ho N13H.out
  replace hs3 := hs3.learn hm ho N15H.out
  clear y0 y1 y2 hm hR ho hb22
  have hR := hR2
  clear hR2
  have hm := map_row hR.map
  obtain ⟨y0, y1, y2⟩ := jCells3 hs3.row
  go_wp2_with fail
  refine (plearn_of br mb K D2 7 2 R (by decide) (by decide) (by decide) (by decide) HRZ.out HDL2.out 0 A16 18 c16 S3 B16 0 d16 [] N3.out Z3.out rfl (fun s hs => by cases hs) hc16 w23 (he.next hb23) hs3.strs ⟨fun h => by simp at h⟩ hR false V4.out 19 D2 HLN5.out).mono ?_
  rintro e w24 ⟨rfl, hR2, ho⟩
  have hb24 := hb23.trans (ho.below (B := w.heap.size) hb23.size (by simpa using HMB.out))
  replace hP := hP.learn hm ho N3H.out
  replace hs1 := hs1.learn hm ho N10H.out
  replace hs2 := hs2.learn hm ho N13H.out
  replace hs3 := hs3.learn hm ho N15H.out
  clear y0 y1 y2 hm hR ho hb23
  have hR := hR2
  clear hR2
  clear hs1 hs2 hs3
  obtain ⟨z0, z1, z2, z3, z4, z5, z6, z7, z8, z9⟩ := jCells10 hP.row
  go_wp2_with fail
  refine (pwas_of br mb K D2 5 (by decide) (by decide) ⟨2, 0, exA, [q]⟩ A5 1 c5 rfl (by decide) (fun s hs => by rw [List.mem_singleton.1 hs]; exact HQZ.out) exA_leaf w24 (he.next hb24) hP.strs hR 0 HW1.out).mono ?_
  rintro e w25 ⟨rfl, hx⟩
  have hb25 := bnext hb24 hx
  replace hP := hP.next hx
  replace hR := hR.below hx
  clear hx hb24 z0 z1 z2 z3 z4 z5 z6 z7 z8 z9
  obtain ⟨z0, z1, z2, z3, z4, z5, z6, z7, z8, z9⟩ := jCells10 hP.row
  go_wp2_with fail
  refine (pwas_of br mb K D2 6 (by decide) (by decide) ⟨2, 0, exA, [q]⟩ A5 1 c5 rfl (by decide) (fun s hs => by rw [List.mem_singleton.1 hs]; exact HQZ.out) exA_leaf w25 (he.next hb25) hP.strs hR 11 HW2.out).mono ?_
  rintro e w26 ⟨rfl, hx⟩
  have hb26 := bnext hb25 hx
  replace hP := hP.next hx
  replace hR := hR.below hx
  clear hx hb25 z0 z1 z2 z3 z4 z5 z6 z7 z8 z9
  go_wp2_with fail
  refine (pwas_of br mb K D2 5 (by decide) (by decide) noPf none 0 0 rfl (by decide) (fun s hs => by cases hs) (by decide) w26 (he.next hb26) ⟨fun h => by simp [noPf] at h⟩ hR 21 HW3.out).mono ?_
  rintro e w27 ⟨rfl, hx⟩
  have hb27 := bnext hb26 hx
  replace hP := hP.next hx
  replace hR := hR.below hx
  clear hx hb26
  go_wp2_with fail
  refine (pdays_of br mb K D2 HDL2.out w27 hR).mono ?_
  rintro e w28 ⟨⟨A28, c28, rfl, hz⟩, hx⟩
  have hb28 := bnext hb27 hx
  replace hP := hP.next hx
  clear hx hb27 hR
  rw [HDD.out] at hz
  simp only [HDD.out, List.length_cons, List.length_nil, Nat.zero_add]
  have hx := Below.news (Below.refl w28.heap.size w28) (.cells #[.int .i64 5] 3)
  have hz1 := hz.keep hx
  have hz2 := Zs.new1 w28 5
  have hb29 := bnext hb28 hx
  replace hP := hP.next hx
  go_wp2_with fail
  refine (ints_any A28 (some ⟨w28.heap.size, 0, none⟩) c28 1 [5] [5] _ (by decide) (by decide) hz1 hz2).mono ?_
  rintro e w30 ⟨rfl, hx3⟩
  have hb30 := bnext hb29 hx3
  replace hP := hP.next hx3
  have hdd : decide (([5] : List Int) = [5]) = true := rfl
  rw [hdd]
  clear hx hx3 hb29 hb28 hz hz1 hz2 hdd
  obtain ⟨z0, z1, z2, z3, z4, z5, z6, z7, z8, z9⟩ := jCells10 hP.row
  go_wp2_with fail
  refine (pwas_nil 5 ⟨2, 0, exA, [q]⟩ A5 1 c5 w30).mono ?_
  rintro e w31 ⟨rfl, hx⟩
  have hb31 := bnext hb30 hx
  clear hx hb30 z0 z1 z2 z3 z4 z5 z6 z7 z8 z9 hP
  go_wp2_with fail
  refine (pdays_nil w31).mono ?_
  rintro e w32 ⟨rfl, hx⟩
  have hb32 := bnext hb31 hx
  go_wp2
  go_ret
  exact ⟨rfl, hb32⟩
end Go.Proofs.YtobhpeockinnjaaGreatDoor
/- The law ProofComplete in plain Lean. No conditions but those that each theorem states. -/
namespace Go.Proofs.YtobhpeockinnjaaGreatDoor
open Go Go.RowKit Go.Sort Go.Maps
theorem incl_yes' (l : List ByteArray) (i : Nat) (hi : i < l.length) (hl : l.length ≤ 1000000) : checkB (Dg.root l) l.length i l[i] (Dg.path l i) = true := by
  unfold checkB
  rw [decide_eq_true (show (l.length : Int) ≤ 1000000 ∧ (0 : Int) ≤ i ∧ (i : Int) < l.length by omega), allDig_yes _ (fun x hx => (Dg.path_sizes l.length l i rfl x hx).1), Int.toNat_natCast, Int.toNat_natCast, Dg.path_len l.length l i rfl hi, Dg.path_up l.length l i hi rfl]
  simp
theorem make_at {l : List Dg.It} (hv : Dg.validC l = true) {k : Nat} (hk : k < l.length) :
    makeE l l[k].id = if l[k].gone = true then (noPf, 16) else (⟨((Dg.leavesOf l).length : Nat), (idxN l k : Nat), Dg.bareI l[k], Dg.path (Dg.leavesOf l) (idxN l k)⟩, 0) := by
  obtain ⟨s, hW, _⟩ := Dg.valid_walk hv
  have h1 := findX_walk (Nat.le_refl _) hW hk
  rcases findX_cases l l[k].id with ⟨_, h2⟩ | ⟨j, hj, h2, h3, _⟩
  · rw [h1] at h2; omega
  · have hjk : j = k := by rw [h1] at h3; omega
    subst hjk
    unfold makeE
    rw [if_neg (by rw [hv]; decide), h2]
    simp only [List.getElem?_eq_getElem hk]
theorem leaf_at (l : List Dg.It) {k : Nat} (hk : k < l.length) (hg : l[k].gone = false) : (Dg.leavesOf l)[idxN l k]? = some (Dg.leafI l[k]) := by
  have h1 : l = l.take k ++ l[k] :: l.drop (k + 1) := by
    rw [← List.drop_eq_getElem_cons hk, List.take_append_drop]
  have h2 : Dg.leavesOf l = Dg.leavesOf (l.take k) ++ (Dg.leafI l[k] :: Dg.leavesOf (l.drop (k + 1))) := by
    conv => lhs; rw [h1]
    unfold Dg.leavesOf
    rw [List.filter_append, List.map_append, List.filter_cons, if_pos (by rw [hg]; rfl), List.map_cons]
  have h3 : (Dg.leavesOf (l.take k)).length = idxN l k := by
    unfold Dg.leavesOf idxN
    rw [List.length_map, List.countP_eq_length_filter]
  rw [h2, List.getElem?_append_right (by rw [h3]; exact Nat.le_refl _), h3, Nat.sub_self]
  rfl
theorem complete_at {l : List Dg.It} (hv : Dg.validC l = true) {k : Nat} (hk : k < l.length) (hg : l[k].gone = false) :
    checkP (Dg.root (Dg.leavesC l)) ⟨((Dg.leavesOf l).length : Nat), (idxN l k : Nat), Dg.bareI l[k], Dg.path (Dg.leavesOf l) (idxN l k)⟩ = true := by
  obtain ⟨s, hW, h2⟩ := Dg.valid_walk hv
  have hL : Dg.leavesC l = Dg.leavesOf l := by unfold Dg.leavesC; rw [if_pos hv]
  have hp := Dg.valid_proper hv l[k] (List.getElem_mem hk)
  rw [checkP_rest]
  · have h3 := leaf_at l hk hg
    obtain ⟨h4, h5⟩ := List.getElem?_eq_some_iff.1 h3
    have h6 := incl_yes' (Dg.leavesOf l) (idxN l k) h4 (by
      have : (Dg.leavesOf l).length ≤ l.length := by
        unfold Dg.leavesOf
        rw [List.length_map]; exact List.length_filter_le _ _
      omega)
    rw [h5] at h6
    rw [hL]
    exact h6
  · rcases Dg.proper_kind hp with ⟨e, _⟩ | ⟨e, _⟩
    · unfold kindOk
      show (((l[k].kind : Int) == 2) || (l[k].kind == 1)) = true
      rw [e]; rfl
    · unfold kindOk
      show (((l[k].kind : Int) == 2) || (l[k].kind == 1)) = true
      rw [e]; rfl
  · exact decide_eq_true rfl
  · exact hg
theorem idxN_end {l : List Dg.It} (hv : Dg.validC l = true) : idxN l l.length = (Dg.leavesC l).length := by
  rw [idxN_all]; unfold Dg.leavesC; rw [if_pos hv]
end Go.Proofs.YtobhpeockinnjaaGreatDoor
/- Few and Same of the reference, small and short of the laws. No conditions but those that each theorem states. -/
namespace Go.Proofs.YtobhpeockinnjaaGreatDoor
open Go Go.RowKit Go.Sort Go.Maps
def fewP (p : Pf) : Bool := decide (p.it.id.size + p.it.parent.size + p.it.number.size ≤ 600) && (decide (p.it.north.size ≤ 600) && (decide (p.it.south.size ≤ 600) && (decide (p.path.length ≤ 30) && p.path.all fun s => decide (s.size ≤ 100))))
theorem fewP_leaf {p : Pf} (h : fewP p = true) : (∀ s ∈ leafS p.it, s.size ≤ 10000) ∧ p.path.length ≤ 30 ∧ ∀ s ∈ p.path, s.size ≤ 100 := by
  unfold fewP at h
  simp only [Bool.and_eq_true, decide_eq_true_eq, List.all_eq_true] at h
  obtain ⟨h1, h2, h3, h4, h5⟩ := h
  refine ⟨fun s hs => ?_, h4, h5⟩
  unfold leafS at hs
  simp only [List.mem_cons, List.not_mem_nil, or_false] at hs
  rcases hs with rfl | rfl | rfl | rfl | rfl
  · unfold kindS; split <;> decide
  · omega
  · omega
  · omega
  · omega
theorem small_of (l : List Dg.It) (A : Option Addr) (n c : Nat) (hl : l.length = n) (hn : n ≤ 9223372036854775807) (w : World) (hI : Its w w.heap.size A l) (R : Bool) (hR : fewC l 20 = R) :
    Calls Tryz.prog 11 #[.agg #[.slice A n c]] w fun e w' => e = .returned (.bool R) ∧ Below w.heap.size w w' := by
  have hx1 := Below.news (Below.refl w.heap.size w) (.cells #[.slice A n c] 24)
  have hc := iCells0 (heap_alloc_new w (.cells #[.slice A n c] 24))
  have hI1 := hI.keep hx1
  have HR := hide hR
  clear hR hI
  go_enter Tryz.func11, Tryz.ntmps11
  go_wp2_with fail
  refine (rfew_of l A n c 20 hl hn (by omega) _ hI1 R HR.out).mono ?_
  rintro e w2 ⟨rfl, hx⟩
  have hb := bnext hx1 hx
  clear hx hx1 hc hI1
  go_wp2
  go_ret
  exact ⟨rfl, hb⟩
set_option maxRecDepth 100000 in
set_option maxHeartbeats 8000000 in
theorem rfewP_of (p : Pf) (A : Option Addr) (m c : Nat) (hm : p.path.length = m) (hm2 : m ≤ 9223372036854775807) (hsz : p.it.id.size ≤ 9223372036854775807 ∧ p.it.parent.size ≤ 9223372036854775807 ∧ p.it.number.size ≤ 9223372036854775807) (hsum : p.it.id.size + p.it.parent.size + p.it.number.size ≤ 9223372036854775807) (w : World) (hS : Strs w w.heap.size A p.path) (R : Bool) (hR : fewP p = R) :
    Calls Tryz.prog 12 #[.agg #[.int .i64 p.count, .int .i64 p.idx, .int .i64 p.it.kind, .string p.it.id, .string p.it.parent, .string p.it.number, .string p.it.north, .string p.it.south, .bool p.it.gone, .slice A m c]] w fun e w' => e = .returned (.bool R) ∧ Below w.heap.size w w' := by
  have hx1 := Below.news (Below.refl w.heap.size w) (.cells #[.int .i64 p.count, .int .i64 p.idx, .int .i64 p.it.kind, .string p.it.id, .string p.it.parent, .string p.it.number, .string p.it.north, .string p.it.south, .bool p.it.gone, .slice A m c] 29)
  have hr1 := heap_alloc_new w (.cells #[.int .i64 p.count, .int .i64 p.idx, .int .i64 p.it.kind, .string p.it.id, .string p.it.parent, .string p.it.number, .string p.it.north, .string p.it.south, .bool p.it.gone, .slice A m c] 29)
  have hx2 := Below.news (Below.refl (w.alloc (.cells #[.int .i64 p.count, .int .i64 p.idx, .int .i64 p.it.kind, .string p.it.id, .string p.it.parent, .string p.it.number, .string p.it.north, .string p.it.south, .bool p.it.gone, .slice A m c] 29)).heap.size (w.alloc (.cells #[.int .i64 p.count, .int .i64 p.idx, .int .i64 p.it.kind, .string p.it.id, .string p.it.parent, .string p.it.number, .string p.it.north, .string p.it.south, .bool p.it.gone, .slice A m c] 29))) (.cells #[.int .i64 p.it.kind, .string p.it.id, .string p.it.parent, .string p.it.number, .string p.it.north, .string p.it.south, .bool p.it.gone] 26)
  have hr2 := heap_alloc_new (w.alloc (.cells #[.int .i64 p.count, .int .i64 p.idx, .int .i64 p.it.kind, .string p.it.id, .string p.it.parent, .string p.it.number, .string p.it.north, .string p.it.south, .bool p.it.gone, .slice A m c] 29)) (.cells #[.int .i64 p.it.kind, .string p.it.id, .string p.it.parent, .string p.it.number, .string p.it.north, .string p.it.south, .bool p.it.gone] 26)
  have hs1 : (w.alloc (.cells #[.int .i64 p.count, .int .i64 p.idx, .int .i64 p.it.kind, .string p.it.id, .string p.it.parent, .string p.it.number, .string p.it.north, .string p.it.south, .bool p.it.gone, .slice A m c] 29)).heap.size = w.heap.size + 1 := by simp
  rw [hs1] at hr2
  have hb1 := bnext hx1 hx2
  have hS1 : PS w.heap.size (w.heap.size + 1) p A m c ((w.alloc (.cells #[.int .i64 p.count, .int .i64 p.idx, .int .i64 p.it.kind, .string p.it.id, .string p.it.parent, .string p.it.number, .string p.it.north, .string p.it.south, .bool p.it.gone, .slice A m c] 29)).alloc (.cells #[.int .i64 p.it.kind, .string p.it.id, .string p.it.parent, .string p.it.number, .string p.it.north, .string p.it.south, .bool p.it.gone] 26)) := ⟨iNext hr1 hx2, hr2, keepS hS hb1⟩
  have HM := hide hm; have HR := hide hR
  clear hr2 hx2 hs1 hS hm hR
  obtain ⟨c0, c1, c2, c3, c4, c5, c6, c7, c8, c9⟩ := jCells10 hr1
  go_enter Tryz.func12, Tryz.ntmps12
  go_upto_region 2 with (fail)
  clear c0 c1 c2 c3 c4 c5 c6 c7 c8 c9 hr1 hx1
  generalize (w.alloc (.cells #[.int .i64 p.count, .int .i64 p.idx, .int .i64 p.it.kind, .string p.it.id, .string p.it.parent, .string p.it.number, .string p.it.north, .string p.it.south, .bool p.it.gone, .slice A m c] 29)).alloc (.cells #[.int .i64 p.it.kind, .string p.it.id, .string p.it.parent, .string p.it.number, .string p.it.north, .string p.it.south, .bool p.it.gone] 26) = w1 at *
  obtain ⟨q0, q1, q2, q3, q4, q5, q6⟩ := iCells hS1.r2
  obtain ⟨c0, c1, c2, c3, c4, c5, c6, c7, c8, c9⟩ := jCells10 hS1.r1
  have hw1 : IntKind.i64.wrap ((p.it.id.size : Int) + (p.it.parent.size : Int)) = (p.it.id.size : Int) + (p.it.parent.size : Int) := IntWalk.i64_in _ (by omega)
  have hw2 : IntKind.i64.wrap ((p.it.id.size : Int) + (p.it.parent.size : Int) + (p.it.number.size : Int)) = (p.it.id.size : Int) + (p.it.parent.size : Int) + (p.it.number.size : Int) := IntWalk.i64_in _ (by omega)
  have hno : ∀ (h : fewP p = false), false = R := fun h => by rw [← HR.out, h]
  by_cases g1 : (600 : Int) < (p.it.id.size : Int) + (p.it.parent.size : Int) + (p.it.number.size : Int)
  · have E9 := hide (hno (by unfold fewP; rw [decide_eq_false (by omega), Bool.false_and]))
    clear hno
    go_wp2
    go_ret
    exact ⟨ret_bool E9.out, hb1⟩
  by_cases g2 : (600 : Int) < (p.it.north.size : Int)
  · have E9 := hide (hno (by unfold fewP; rw [show decide (p.it.north.size ≤ 600) = false from decide_eq_false (by omega), Bool.false_and, Bool.and_false]))
    clear hno
    go_wp2
    go_ret
    exact ⟨ret_bool E9.out, hb1⟩
  by_cases g3 : (600 : Int) < (p.it.south.size : Int)
  · have E9 := hide (hno (by unfold fewP; rw [show decide (p.it.south.size ≤ 600) = false from decide_eq_false (by omega), Bool.false_and, Bool.and_false, Bool.and_false]))
    clear hno
    go_wp2
    go_ret
    exact ⟨ret_bool E9.out, hb1⟩
  by_cases g4 : (30 : Int) < (m : Int)
  · have E9 := hide (hno (by unfold fewP; rw [show decide (p.path.length ≤ 30) = false from decide_eq_false (by rw [HM.out]; omega), Bool.false_and, Bool.and_false, Bool.and_false, Bool.and_false]))
    clear hno
    go_wp2
    go_ret
    exact ⟨ret_bool E9.out, hb1⟩
  have HOK := hide (show fewP p = p.path.all fun s => decide (s.size ≤ 100) by
    unfold fewP
    rw [decide_eq_true (show p.it.id.size + p.it.parent.size + p.it.number.size ≤ 600 by omega), decide_eq_true (show p.it.north.size ≤ 600 by omega), decide_eq_true (show p.it.south.size ≤ 600 by omega), decide_eq_true (show p.path.length ≤ 30 by rw [HM.out]; omega)]
    rfl)
  clear hno
  go_wp2
  clear g1 g2 g3 g4 hw1 hw2 q0 q1 q2 q3 q4 q5 q6 c0 c1 c2 c3 c4 c5 c6 c7 c8
  go_loop [4] (fun iv => ∃ k : Nat, k ≤ m ∧ iv = .int .i64 (k : Int) ∧ Hid (∀ s ∈ p.path.take k, s.size ≤ 100)) (fun iv => m - (intOf iv).toNat)
  case atStart => exact ⟨0, by omega, rfl, fun s hs => by simp at hs⟩
  case round =>
    obtain ⟨k, hk, rfl, hall⟩ := hrel
    by_cases hlt : k < m
    · have hkm : (k : Int) < (m : Int) := by omega
      have hk0 : (0 : Int) ≤ (k : Int) := by omega
      have hkl : k < p.path.length := by rw [HM.out]; exact hlt
      obtain ⟨b, off, rfl, _, hcell⟩ := hS1.path.get hkl
      obtain ⟨y, hy⟩ : ∃ y, p.path[k] = y := ⟨_, rfl⟩
      rw [hy] at hcell
      have HY := hide hy
      clear hy
      by_cases hz : (100 : Int) < (y.size : Int)
      · have E9 := hide (show false = R by
          rw [← HR.out, HOK.out]
          exact (List.all_eq_false.2 ⟨y, by rw [← HY.out]; exact List.getElem_mem hkl, by rw [decide_eq_false (by omega)]; exact Bool.false_ne_true⟩).symm)
        go_wp2
        go_ret
        exact ⟨ret_bool E9.out, hb1⟩
      · have HZ := hide hz
        go_wp2
        go_round
        case rel => exact ⟨k + 1, by omega, by go_num, fun s hs => by
          rw [List.take_succ_eq_append_getElem hkl, HY.out] at hs
          rcases List.mem_append.1 hs with h | h
          · exact hall.out s h
          · rw [List.mem_singleton.1 h]; have := HZ.out; omega⟩
        case measure => simp [intOf]; omega
    · obtain rfl : k = m := by omega
      have E9 := hide (show true = R by
        rw [← HR.out, HOK.out]
        exact (List.all_eq_true.2 fun s hs => decide_eq_true (by have h := hall.out; rw [← HM.out, List.take_length] at h; exact h s hs)).symm)
      go_wp2
      go_ret
      exact ⟨ret_bool E9.out, hb1⟩
end Go.Proofs.YtobhpeockinnjaaGreatDoor
/- The law ProofComplete. No conditions but those that each theorem states. -/
namespace Go.Proofs.YtobhpeockinnjaaGreatDoor
open Go Go.RowKit Go.Sort Go.Maps
attribute [local go_sem] Oper.semAt_some
/-- What the law holds: the code in its variable, its items, the tables, and its leaves. -/
structure KS (g : Nat) (A : Option Addr) (n c : Nat) (l : List Dg.It) (A7 : Option Addr) (L : List ByteArray) (X : World) : Prop where
  row : X.heap[g]? = some (.cells #[.slice A n c] 24 (0, 0))
  its : Its X X.heap.size A l
  env : Env X
  lis : Strs X X.heap.size A7 L
theorem KS.below {g : Nat} {A : Option Addr} {n c : Nat} {l : List Dg.It} {A7 : Option Addr} {L : List ByteArray} {X X' : World} (h : KS g A n c l A7 L X) (hb : Below X.heap.size X X') : KS g A n c l A7 L X' :=
  ⟨iNext h.row hb, h.its.keep hb, h.env.next hb, keepS h.lis hb⟩
theorem kfew {l : List Dg.It} {m : Nat} (h : fewC l m = true) : l.length ≤ m ∧ ∀ x ∈ l, ∀ s ∈ Dg.fieldsI x, s.size ≤ 500 := by
  obtain ⟨h1, h2⟩ := fewC_spec h
  exact ⟨h1, fun x hx => small_fields (h2 x hx)⟩
theorem makeE_bare_eq {l : List Dg.It} (hv : Dg.validC l = true) {k : Nat} (hk : k < l.length) (x : Dg.It) (hx : l[k] = x) (hg : x.gone = true) : makeE l x.id = (noPf, 16) := by
  subst hx
  rw [make_at hv hk, if_pos hg]
theorem num_small {l : List Dg.It} (hv : Dg.validC l = true) {k : Nat} (hk : k < l.length) (x : Dg.It) (hx : l[k] = x) : x.number.size ≤ 8 := by
  subst hx
  have hp := Dg.valid_proper hv l[k] (List.getElem_mem hk)
  unfold Dg.properI Dg.isNumB at hp
  split at hp
  · simp only [Bool.and_eq_true, decide_eq_true_eq] at hp
    exact hp.1.1
  · split at hp
    · simp only [Bool.and_eq_true, decide_eq_true_eq] at hp
      exact hp.1.1
    · cases hp
theorem setCell_off {X : World} {g : Nat} {o : Nat} {v : Value} {k : Nat} (h : k ≠ g) : (X.setCell ⟨g, o, none⟩ v).heap[k]? = X.heap[k]? := by
  simp only [World.setCell]
  rw [Array.getElem?_modify, if_neg (fun e => h e.symm)]
theorem bare_leaf {y : Dg.It} (h : ∀ s ∈ Dg.fieldsI y, s.size ≤ 500) {g : Bool} : ∀ s ∈ leafS ⟨y.kind, y.id, y.parent, ⟨#[]⟩, y.north, y.south, g⟩, s.size ≤ 10000 := fun s hs => Nat.le_trans (leafS_size (x := y) (by decide) h s hs) (by decide)
theorem path_few (l : List ByteArray) (i : Nat) (h : l.length ≤ 20) (hi : i < l.length) : (Dg.path l i).length ≤ 1048576 := by
  rw [Dg.path_len l.length l i rfl hi]
  have h1 := Dg.length_small l.length h i hi
  have h2 : ∀ n, n ≤ 20 → Dg.bits 5 n ≤ 1000 := by decide +kernel
  exact Nat.le_trans h1 (Nat.le_trans (h2 _ h) (by decide))
set_option maxRecDepth 100000 in
set_option maxHeartbeats 16000000 in
theorem law_complete (l : List Dg.It) (A : Option Addr) (n c : Nat) (hl : l.length = n) (hw : ∀ x ∈ l, ItW x) (hn : n ≤ 9223372036854775807) (hnc : n ≤ c) (w : World) (he : Env w) (hI : Its w w.heap.size A l) :
    Calls Tryz.prog 4 #[.agg #[.slice A n c]] w fun e w' => e = .returned (.bool true) ∧ Below w.heap.size w w' := by
  have hb1 := Below.news (Below.refl w.heap.size w) (.cells #[.slice A n c] 24)
  have hS1 : KS w.heap.size A n c l none [] (w.alloc (.cells #[.slice A n c] 24)) := ⟨heap_alloc_new w (.cells #[.slice A n c] 24), hI.keep hb1, he.next hb1, Strs.nil _ _ _⟩
  have HL := hide hl; have HW := hide hw; have HNC := hide hnc
  clear hl hw hI he hnc
  go_enter Tryz.func4, Tryz.ntmps4
  go_wp2_with fail
  generalize w.alloc (.cells #[.slice A n c] 24) = w1 at *
  refine (head44_of w1 hS1.env).mono ?_
  rintro e w2 ⟨rfl, hx2⟩
  have hS2 := hS1.below hx2
  have hb2 := bnext hb1 hx2
  clear hS1 hb1 hx2
  have hc1 := iCells0 hS2.row
  obtain ⟨F, hF⟩ : ∃ F, fewC l 20 = F := ⟨_, rfl⟩
  go_wp2_with fail
  refine (small_of l A n c HL.out hn w2 hS2.its F hF).mono ?_
  rintro e w3 ⟨rfl, hx3⟩
  have hS3 := hS2.below hx3
  have hb3 := bnext hb2 hx3
  clear hS2 hb2 hx3 hc1
  have hc1 := iCells0 hS3.row
  cases F with
  | false =>
    clear hF hc1
    go_wp2
    go_ret
    exact ⟨rfl, hb3⟩
  | true =>
    obtain ⟨n20, z20⟩ := kfew hF
    rw [HL.out] at n20
    have ZL := hide z20
    clear hF z20
    obtain ⟨V, hV⟩ : ∃ V, Dg.validC l = V := ⟨_, rfl⟩
    go_wp2_with fail
    refine (Code.valid_of l A n c HL.out HW.out (by omega) w3 hS3.its V hV).mono ?_
    rintro e w4 ⟨rfl, hx4⟩
    have hS4 := hS3.below hx4
    have hb4 := bnext hb3 hx4
    clear hS3 hb3 hx4 hc1
    have hc1 := iCells0 hS4.row
    cases V with
    | false =>
      clear hV hc1
      go_wp2
      go_ret
      exact ⟨rfl, hb4⟩
    | true =>
      have HV := hide hV
      clear hV
      obtain ⟨L, hL⟩ : ∃ L, Dg.leavesC l = L := ⟨_, rfl⟩
      obtain ⟨m, hm⟩ : ∃ m, L.length = m := ⟨_, rfl⟩
      obtain ⟨R, hR⟩ : ∃ R, Dg.root L = R := ⟨_, rfl⟩
      have hmn : m ≤ n := by
        rw [← hm, ← hL, ← idxN_end HV.out, ← HL.out]
        exact idxN_le _ _
      have hLz : ∀ s ∈ L, s.size ≤ 1048576 := by
        rw [← hL]
        unfold Dg.leavesC
        rw [if_pos HV.out]
        intro s hs
        unfold Dg.leavesOf at hs
        obtain ⟨x, hx, rfl⟩ := List.mem_map.1 hs
        exact leafI_size2 (leafS_size (by decide) (fun s hs => Nat.le_trans (ZL.out x (List.mem_filter.1 hx).1 s hs) (by decide)))
      have HL7 := hide hL; have HM := hide hm; have HR := hide hR; have HLZ := hide hLz
      clear hL hm hR hLz
      go_wp2_with fail
      refine (Code.leaves_of l A n c HL.out HW.out (by omega) w4 hS4.env hS4.its (few_up2 ZL.out (by decide)) L HL7.out).mono ?_
      rintro e w5 ⟨⟨A7, c7, rfl, hc7, hs7⟩, hx⟩
      rw [HM.out] at hc7 ⊢
      have hS5 : KS w.heap.size A n c l A7 L w5 := ⟨iNext hS4.row hx, hS4.its.keep hx, hS4.env.next hx, hs7⟩
      have hb5 := bnext hb4 hx
      clear hS4 hb4 hx hs7 hc1
      go_wp2_with fail
      refine (root_of m A7 c7 L R w5 HM.out HR.out hS5.env hc7 (by omega) (fun s hs => Nat.le_trans (HLZ.out s hs) (by decide)) hS5.lis).mono ?_
      rintro e w6 ⟨rfl, hx⟩
      have hS6 := hS5.below hx
      have hb6 := bnext hb5 hx
      clear hS5 hb5 hx
      go_wp2
      go_loopw [6, 7] (fun nv kv wr => ∃ k : Nat, k ≤ n ∧ nv = .int .i64 ((idxN l k : Nat) : Int) ∧ kv = .int .i64 (k : Int) ∧ KS w.heap.size A n c l A7 L wr ∧ Below w.heap.size w wr) (fun _ kv _ => n - (intOf kv).toNat)
      case atStart => exact ⟨0, by omega, by rfl, rfl, hS6, hb6⟩
      case round =>
        clear hS6 hb6
        obtain ⟨k, hk, rfl, rfl, hS, hb⟩ := hrel
        have hc1 := iCells0 hS.row
        by_cases hlt : k < n
        · have hkl : k < l.length := by rw [HL.out]; exact hlt
          obtain ⟨b, off, rfl⟩ := hS.its.some hkl
          have hkn : (k : Int) < (n : Int) := by omega
          have hk0' : (0 : Int) ≤ (k : Int) := by omega
          obtain ⟨y, hy⟩ : ∃ y, l[k] = y := ⟨_, rfl⟩
          obtain ⟨_, y0, y1, y2, y3, y4, y5, y6⟩ := hS.its.cells hkl y hy
          have HY := hide hy
          have hx7 := Below.news (Below.refl wr.heap.size wr) (.cells #[.int .i64 y.kind, .string y.id, .string y.parent, .string y.number, .string y.north, .string y.south, .bool y.gone] 26)
          have hr7 := heap_alloc_new wr (.cells #[.int .i64 y.kind, .string y.id, .string y.parent, .string y.number, .string y.north, .string y.south, .bool y.gone] 26)
          have hS7 := hS.below hx7
          have hb7 := bnext hb hx7
          have hc7' := iCells0 hS7.row
          have hq1 : (wr.alloc (.cells #[.int .i64 y.kind, .string y.id, .string y.parent, .string y.number, .string y.north, .string y.south, .bool y.gone] 26)).cell? ⟨wr.heap.size, 1, none⟩ = some (.string y.id) := by rw [cell_of_row _ _ _ _ _ (0, 0) hr7]; rfl
          obtain ⟨q, hq⟩ : ∃ q, idxN l k = q := ⟨_, rfl⟩
          have hqk : q ≤ k := by rw [← hq]; exact idxN_le _ _
          have HQ1 := hide (show idxN l (k + 1) = q + (if y.gone = true then 0 else 1) by rw [idxN_succ hkl, hq, hy])
          have HMB := hide (make_at HV.out hkl)
          have HCA := hide (fun hg => complete_at HV.out hkl hg)
          have HYA := hide (show ∀ s ∈ Dg.fieldsI y, s.size ≤ 500 from fun s hs => ZL.out y (by rw [← hy]; exact List.getElem_mem hkl) s hs)
          have HNS := hide (num_small HV.out hkl y hy)
          rw [hy, hq] at HMB HCA
          rw [hq]
          have HQ := hide hq
          go_wp2_with fail
          have HSK := hide (fun X (hX : Below wr.heap.size wr X) => hS.below hX)
          have HBK := hide (fun X (hX : Below wr.heap.size wr X) => bnext hb hX)
          clear hS hb hq hy y0 y1 y2 y3 y4 y5 y6 hc1
          generalize wr.alloc (.cells #[.int .i64 y.kind, .string y.id, .string y.parent, .string y.number, .string y.north, .string y.south, .bool y.gone] 26) = w7 at *
          generalize wr.heap.size = b7 at *
          cases gy : y.gone with
          | true =>
            rw [gy] at HQ1 HMB hr7
            obtain ⟨P0, hP0⟩ : ∃ P, noPf = P := ⟨_, rfl⟩
            rw [hP0] at HMB
            refine (pmake_of l (some ⟨b, off, none⟩) n c HL.out HW.out (by omega) HNC.out (few_up2 ZL.out (by decide)) y.id w7 hS7.env hS7.its P0 16 (by rw [HMB.out]; rfl)).mono ?_
            rintro e w8 ⟨A9, c9, rfl, _, _, hx8⟩
            have hx9 := Below.news (Below.refl w8.heap.size w8) (.cells #[.int .i64 P0.count, .int .i64 P0.idx, .int .i64 P0.it.kind, .string P0.it.id, .string P0.it.parent, .string P0.it.number, .string P0.it.north, .string P0.it.south, .bool P0.it.gone, .slice A9 P0.path.length c9] 29)
            have hr9 := iNext (iNext hr7 hx8) hx9
            have hS9 := (hS7.below hx8).below hx9
            have hb9 := bnext (bnext hb7 hx8) hx9
            have hq6 : (w8.alloc (.cells #[.int .i64 P0.count, .int .i64 P0.idx, .int .i64 P0.it.kind, .string P0.it.id, .string P0.it.parent, .string P0.it.number, .string P0.it.north, .string P0.it.south, .bool P0.it.gone, .slice A9 P0.path.length c9] 29)).cell? ⟨b7, 6, none⟩ = some (.bool true) := by rw [cell_of_row _ _ _ _ _ (0, 0) hr9]; rfl
            clear hS7 hb7 hx8 hx9 hr7 hr9 hc7' hq1
            go_wp2
            go_roundw
            case rel => exact ⟨k + 1, by omega, by rw [HQ1.out]; rfl, by go_num, hS9, hb9⟩
            case measure => simp [intOf]; omega
          | false =>
            rw [gy] at HQ1 HMB hr7
            have hlm : (Dg.leavesOf l).length = m := by
              rw [← HM.out, ← HL7.out]; unfold Dg.leavesC; rw [if_pos HV.out]
            obtain ⟨PP, hPP⟩ : ∃ PP, Dg.path (Dg.leavesOf l) q = PP := ⟨_, rfl⟩
            obtain ⟨pn, hpn⟩ : ∃ pn, PP.length = pn := ⟨_, rfl⟩
            have hpz : ∀ s ∈ PP, s.size = 16 := by rw [← hPP]; exact fun s hs => (Dg.path_sizes (Dg.leavesOf l).length (Dg.leavesOf l) q rfl s hs).2
            have hqlt : idxN l k < (Dg.leavesOf l).length := by
              have h9 := idxN_mono l (j := k + 1) (k := l.length) (by omega)
              rw [HQ1.out, idxN_all] at h9
              rw [HQ.out]
              exact h9
            have hbare : Dg.bareI y = ⟨y.kind, y.id, y.parent, ⟨#[]⟩, y.north, y.south, false⟩ := by rw [← gy]; rfl
            have hME : makeE l y.id = (⟨(m : Int), (q : Int), ⟨y.kind, y.id, y.parent, ⟨#[]⟩, y.north, y.south, false⟩, PP⟩, 0) := by
              rw [HMB.out, if_neg (by decide), hlm, hPP, hbare]
            have hCK : checkP R ⟨(m : Int), (q : Int), ⟨y.kind, y.id, y.parent, ⟨#[]⟩, y.north, y.south, false⟩, PP⟩ = true := by
              have h9 := HCA.out gy
              rw [hlm, hPP, hbare, HL7.out, HR.out] at h9
              exact h9
            have hpn2 : pn ≤ 1048576 := by
              rw [← hpn, ← hPP]
              exact path_few _ _ (by rw [hlm]; omega) (by rw [← HQ.out]; exact hqlt)
            have HPZ := hide hpz; have HPN := hide hpn; have HCK := hide hCK; have HPN2 := hide hpn2
            have HYZ := hide (show ∀ s ∈ leafS ⟨y.kind, y.id, y.parent, ⟨#[]⟩, y.north, y.south, false⟩, s.size ≤ 10000 from bare_leaf HYA.out)
            have HME := hide hME
            clear hlm hPP hbare HMB HCA hpz hpn hCK hpn2 hME
            refine (pmake_of l (some ⟨b, off, none⟩) n c HL.out HW.out (by omega) HNC.out (few_up2 ZL.out (by decide)) y.id w7 hS7.env hS7.its _ 0 HME.out).mono ?_
            rintro e w8 ⟨A9, c9, rfl, _, hs9, hx8⟩
            simp only [HPN.out]
            have hx9 := Below.news (Below.refl w8.heap.size w8) (.cells #[.int .i64 (m : Int), .int .i64 (q : Int), .int .i64 y.kind, .string y.id, .string y.parent, .string ⟨#[]⟩, .string y.north, .string y.south, .bool false, .slice A9 pn c9] 29)
            have hr10 := heap_alloc_new w8 (.cells #[.int .i64 (m : Int), .int .i64 (q : Int), .int .i64 y.kind, .string y.id, .string y.parent, .string ⟨#[]⟩, .string y.north, .string y.south, .bool false, .slice A9 pn c9] 29)
            have hr9 := iNext (iNext hr7 hx8) hx9
            have hS9 := (hS7.below hx8).below hx9
            have hb9 := bnext (bnext hb7 hx8) hx9
            have hs10 := keepS hs9 hx9
            have hlt78 : b7 < w8.heap.size := lt_of_block (iNext hr7 hx8)
            have hq6 : (w8.alloc (.cells #[.int .i64 (m : Int), .int .i64 (q : Int), .int .i64 y.kind, .string y.id, .string y.parent, .string ⟨#[]⟩, .string y.north, .string y.south, .bool false, .slice A9 pn c9] 29)).cell? ⟨b7, 6, none⟩ = some (.bool false) := by rw [cell_of_row _ _ _ _ _ (0, 0) hr9]; rfl
            have hq3 : (w8.alloc (.cells #[.int .i64 (m : Int), .int .i64 (q : Int), .int .i64 y.kind, .string y.id, .string y.parent, .string ⟨#[]⟩, .string y.north, .string y.south, .bool false, .slice A9 pn c9] 29)).cell? ⟨b7, 3, none⟩ = some (.string y.number) := by rw [cell_of_row _ _ _ _ _ (0, 0) hr9]; rfl
            have hf3 := frozen_of_row _ _ 3 _ _ hr9
            have hvx := ((hx7.trans (hx8.mono (Nat.le_of_lt (lt_of_block hr7)))).trans (hx9.mono (Nat.le_of_lt hlt78))).setCell (p := ⟨b7, 3, none⟩) (Nat.le_refl b7) (.string ⟨#[]⟩)
            have hvr := setCell_rowN hr9 3 (.string ⟨#[]⟩)
            simp only [List.setIfInBounds_toArray, List.set_cons_zero, List.set_cons_succ] at hvr
            have hvt := (setCell_off (v := .string ⟨#[]⟩) (o := 3) (show w8.heap.size ≠ b7 by omega) (X := w8.alloc (.cells #[.int .i64 (m : Int), .int .i64 (q : Int), .int .i64 y.kind, .string y.id, .string y.parent, .string ⟨#[]⟩, .string y.north, .string y.south, .bool false, .slice A9 pn c9] 29))).trans hr10
            have hvz : ((w8.alloc (.cells #[.int .i64 (m : Int), .int .i64 (q : Int), .int .i64 y.kind, .string y.id, .string y.parent, .string ⟨#[]⟩, .string y.north, .string y.south, .bool false, .slice A9 pn c9] 29)).setCell ⟨b7, 3, none⟩ (.string ⟨#[]⟩)).heap.size = (w8.alloc (.cells #[.int .i64 (m : Int), .int .i64 (q : Int), .int .i64 y.kind, .string y.id, .string y.parent, .string ⟨#[]⟩, .string y.north, .string y.south, .bool false, .slice A9 pn c9] 29)).heap.size := by simp [World.setCell]
            have hvs := strs_set hs10 hq3 (fun s hs e => by
              injection e with e
              have h1 := HPZ.out s hs
              have h2 := HNS.out
              rw [e] at h2
              omega) (.string ⟨#[]⟩)
            rw [← hvz] at hvs
            clear hb7 hx8 hx9 hr7 hc7' hq1 hs9 hr9 hr10 hS9 hb9 hs10 hlt78 hS7 hx7 hvz
            go_upto_region 16 with (fail)
            clear hq6 hq3 hf3
            have hit := item_run ((w8.alloc (.cells #[.int .i64 (m : Int), .int .i64 (q : Int), .int .i64 y.kind, .string y.id, .string y.parent, .string ⟨#[]⟩, .string y.north, .string y.south, .bool false, .slice A9 pn c9] 29)).setCell ⟨b7, 3, none⟩ (.string ⟨#[]⟩)) ⟨y.kind, y.id, y.parent, ⟨#[]⟩, y.north, y.south, false⟩ ⟨y.kind, y.id, y.parent, ⟨#[]⟩, y.north, y.south, false⟩
            rw [(sameI_iff _ _).2 rfl] at hit
            have hS9 := HSK.out _ hvx
            have hb9 := HBK.out _ hvx
            clear hvx
            generalize (w8.alloc (.cells #[.int .i64 (m : Int), .int .i64 (q : Int), .int .i64 y.kind, .string y.id, .string y.parent, .string ⟨#[]⟩, .string y.north, .string y.south, .bool false, .slice A9 pn c9] 29)).setCell ⟨b7, 3, none⟩ (.string ⟨#[]⟩) = w9 at *
            generalize w8.heap.size = b9 at *
            have hr10 := hvt; have hr9 := hvr; have hs9 := hvs
            clear hvt hvr hvs
            obtain ⟨z0, z1, z2, z3, z4, z5, z6, z7, z8, z9⟩ := jCells10 hr10
            have t0 : w9.cell? ⟨b7, 0, none⟩ = some (.int .i64 y.kind) := by rw [cell_of_row _ _ _ _ _ (0, 0) hr9]; rfl
            have t1 : w9.cell? ⟨b7, 1, none⟩ = some (.string y.id) := by rw [cell_of_row _ _ _ _ _ (0, 0) hr9]; rfl
            have t2 : w9.cell? ⟨b7, 2, none⟩ = some (.string y.parent) := by rw [cell_of_row _ _ _ _ _ (0, 0) hr9]; rfl
            have t3 : w9.cell? ⟨b7, 3, none⟩ = some (.string ⟨#[]⟩) := by rw [cell_of_row _ _ _ _ _ (0, 0) hr9]; rfl
            have t4 : w9.cell? ⟨b7, 4, none⟩ = some (.string y.north) := by rw [cell_of_row _ _ _ _ _ (0, 0) hr9]; rfl
            have t5 : w9.cell? ⟨b7, 5, none⟩ = some (.string y.south) := by rw [cell_of_row _ _ _ _ _ (0, 0) hr9]; rfl
            have t6 : w9.cell? ⟨b7, 6, none⟩ = some (.bool false) := by rw [cell_of_row _ _ _ _ _ (0, 0) hr9]; rfl
            have hne1 : ((m : Int) != (m : Int)) = false := bne_self_eq_false _
            have hne2 : ((q : Int) != (q : Int)) = false := bne_self_eq_false _
            go_wp2_with fail
            refine (pcheck_of R ⟨(m : Int), (q : Int), ⟨y.kind, y.id, y.parent, ⟨#[]⟩, y.north, y.south, false⟩, PP⟩ A9 pn c9 HPN.out HPN2.out (fun s hs => by rw [HPZ.out s hs]; decide) HYZ.out w9 hS9.env hs9 true HCK.out).mono ?_
            rintro e w10 ⟨rfl, hx10⟩
            have hS10 := hS9.below hx10
            have hb10 := bnext hb9 hx10
            clear hS9 hb9 hx10 z0 z1 z2 z3 z4 z5 z6 z7 z8 z9 t0 t1 t2 t3 t4 t5 t6 hit hr9 hr10 hs9
            go_wp2
            go_roundw
            case rel => exact ⟨k + 1, by omega, by rw [HQ1.out]; go_num, by go_num, hS10, hb10⟩
            case measure => simp [intOf]; omega
        · obtain rfl : n = k := by omega
          have hcm : idxN l n = m := by rw [← HL.out, idxN_end HV.out, HL7.out, HM.out]
          rw [hcm]
          clear hcm
          go_wp2
          go_ret
          exact ⟨rfl, hb⟩
end Go.Proofs.YtobhpeockinnjaaGreatDoor
/- The last step of each law's row: the result is true, and each argument reads as it did. No conditions. -/
namespace Go.Proofs.YtobhpeockinnjaaGreatDoor
open Go Go.RowKit Go.ChangeShapes Go.WideShapes Go.ChangeAt
section
variable {H : Type} {enc : TypeId × Value → H} {P : Program}
theorem trodAll_later (hl : laidOutB P = true) {W W' : World} (hb : Below W.heap.size W W') : ∀ {ts : List TypeId} {vs : List Value} {ds : List (DataW H)} {ps : List MemPlace},
    (∀ t ∈ ts, P.readableRec t = true ∧ t < P.types.size) → (∀ x ∈ ps, x.block < W.heap.size) → DataW.TrodAll enc P W 0 (fun _ => true) true ts vs ds ps → DataW.TrodAll enc P W' 0 (fun b => decide (b < W.heap.size)) true ts vs ds ps
  | [], vs, ds, ps, _, _, h => by
    obtain ⟨rfl, rfl, rfl⟩ := trodAll_nil h
    exact trodAll_mk0
  | t :: ts, vs, ds, ps, hts, hlt, h => by
    obtain ⟨v, vs', d, ds', p, q, rfl, rfl, rfl, hv, hr⟩ := trodAll_cons h
    obtain ⟨h1, h2⟩ := hts t (List.mem_cons_self ..)
    exact trodAll_cons_mk (Below.trod hl h1 h2 hv hb fun x hx => hlt x (List.mem_append_left _ hx))
      (trodAll_later hl hb (fun t' ht' => hts t' (List.mem_cons_of_mem _ ht')) (fun x hx => hlt x (List.mem_append_right _ hx)) hr)
theorem law_post (hl : laidOutB P = true) {f : Func} {s : ChangeSpec} (hv : s.vars = []) {tb : TypeId} (hrt : f.resultTypes = #[tb]) (htb : P.underlying tb = some .bool)
    (hts : (f.params.toList.all fun t => P.readableRec t && decide (t < P.types.size)) = true) {W W' : World} {args : Array Value} {ds gs : List (DataW H)} {before : List MemPlace}
    (hW : DataW.Whole enc P f.params.toList s.vars false W args.toList ds gs before) (hfn : s.fn H (ds ++ gs) = { results := [.lit (.bool true)], args := ds }) (hb : Below W.heap.size W W') :
    s.post enc P f false true false false W args (.bool true) W' := by
  have hlt : ∀ p ∈ before, p.block < W.heap.size := fun p hp => hW.lt p hp
  have hW' := hW
  obtain ⟨p, q, hA, hV, rfl, _, _⟩ := hW
  refine ⟨ds, gs, p ++ q, [], p, [], hW', ?_, ?_, ?_, hb.frame _, fun h => by cases h⟩
  · rw [hfn, hrt]
    exact trodAll_mk1 (shut_bool htb true)
  · rw [hfn]
    exact trodAll_later hl hb (fun t ht => by have := List.all_eq_true.1 hts t ht; simpa using this) (fun x hx => hlt x (List.mem_append_left _ hx)) hA
  · rw [hfn, hv]
    exact rfl
end
end Go.Proofs.YtobhpeockinnjaaGreatDoor
/- The arguments of the laws, opened: strings, small numbers, slices of strings. No conditions. -/
namespace Go.Proofs.YtobhpeockinnjaaGreatDoor
open Go Go.RowKit Go.ChangeShapes Go.WideShapes Go.ChangeAt Go.WideMaps Go.WideElems
open Go.ChangeMaps (open_string)
theorem laid_mem {P : Program} {w : World} {n : String} {d : DataW Unit} : ∀ {l : List (String × DataW Unit)} {ps : List MemPlace}, (n, d) ∈ l → DataW.LaidVars P w l ps →
    ∃ g t cs fuel p, P.globalNamed n = some g ∧ (P.globals[g]?).map (·.type) = some t ∧ w.var? P n = some cs ∧ DataW.trod (fun _ => ()) P w 0 (fun _ => true) false fuel t cs.toList = some (d, p)
  | [], _, hm, _ => by cases hm
  | x :: r, ps, hm, h => by
    obtain ⟨g, t, cs, fuel, p, q, h1, h2, h3, h4, h5, _⟩ := h
    rcases List.mem_cons.1 hm with hx | hx
    · subst hx
      exact ⟨g, t, cs, fuel, p, h1, h2, h3, h4⟩
    · exact laid_mem hx h5
theorem env_of_laid {W : World} {l : List (String × DataW Unit)} (hp : (l.all fun x => x.2.handleName?.isNone) = true) (hm : ("internal/strconv.uint64pow10", Lib.tabData .u64 Lib.pow10Tab) ∈ l) (h : laidMetH Tryz.prog l W) : Env W := by
  rw [MakeChecks.laidMetH_plain _ _ _ hp] at h
  obtain ⟨ps, hl, _⟩ := h
  obtain ⟨g, t, cs, fuel, p, hg, ht, hvar, hd⟩ := laid_mem hm hl
  obtain rfl := Option.some.inj (gPow.symm.trans hg)
  obtain rfl := Option.some.inj ((show (Tryz.prog.globals[0]?).map (·.type) = some 202 by kernel_rfl).symm.trans ht)
  unfold Env Lib.TabIs
  rw [hvar, ← Lib.cells_of_tab Tryz.underlying202 Tryz.underlying145 (by kernel_rfl) (by kernel_rfl) hd]
section
variable {H : Type} {enc : TypeId × Value → H}
theorem addr_of_cell {w : World} {a : Addr} {v : Value} (h : w.cell? a = some v) : a = ⟨a.block, a.off, none⟩ ∧ a.block < w.heap.size := by
  refine ⟨?_, block_lt_of_cell h⟩
  obtain ⟨b, off, sp⟩ := a
  cases sp with
  | none => rfl
  | some k =>
    exfalso
    unfold World.cell? at h
    simp at h
    split at h <;> simp at h
theorem add_plain (b off j : Nat) : (⟨b, off, none⟩ : Addr).add j = ⟨b, off + j, none⟩ := by
  unfold Addr.add
  by_cases h : j = 0
  · rw [if_pos h, h, Nat.add_zero]
  · rw [if_neg h]
set_option maxRecDepth 100000 in
theorem open_strs {W : World} {v : Value} {d : DataW H} {p : List MemPlace} {base : Nat} (hv : Value.okWide Tryz.prog W .any base 27 v) (h : DataW.Trod enc Tryz.prog W 0 (fun _ => true) true 27 v d p) :
    ∃ (A : Option Addr) (c : Nat) (l : List ByteArray), v = .slice A l.length c ∧ l.length ≤ 9223372036854775807 ∧ (∀ s ∈ l, s.size ≤ 9223372036854775807) ∧ Strs W W.heap.size A l := by
  obtain ⟨a0, len, cap, rfl⟩ := okWide_slice Tryz.underlying27 hv
  obtain ⟨fuel, hf⟩ := h
  rcases open_strings Tryz.underlying27 Tryz.underlying9 (by kernel_rfl) hf with ⟨hcs, _⟩ | ⟨a, len', cap', ss, hcs, _, hl, hm, hz, _, hcell, hws⟩
  · simp [Value.cells] at hcs
    obtain ⟨rfl, rfl, rfl⟩ := hcs
    exact ⟨none, 0, [], rfl, by simp, by simp, Strs.nil _ _ _⟩
  · simp [Value.cells] at hcs
    obtain ⟨rfl, rfl, rfl⟩ := hcs
    simp only [if_true] at hz
    unfold maxLen at hm
    have htl : (ss.take len).length = len := by rw [List.length_take, hz]; omega
    refine ⟨some a, cap, ss.take len, by rw [htl], by rw [htl]; omega, fun s hs => hws s (List.mem_of_mem_take hs), ⟨fun h0 => ?_⟩⟩
    rw [htl] at h0
    have h00 : a.add 0 = a := by unfold Addr.add; rw [if_pos rfl]
    obtain ⟨e, hb⟩ := addr_of_cell (h00 ▸ hcell 0 (by omega))
    refine ⟨a.block, a.off, by rw [← e], hb, fun j s hj => ?_⟩
    have hjl : j < len := by
      have := (List.getElem?_eq_some_iff.1 hj).1
      rw [htl] at this; exact this
    have h1 := hcell j (by omega)
    rw [List.getElem?_take, if_pos hjl] at hj
    rw [List.getD_eq_getElem?_getD, hj] at h1
    have e2 : a.add j = ⟨a.block, a.off + j, none⟩ := by
      conv => lhs; rw [e]
      exact add_plain _ _ _
    rw [← e2]
    exact h1
end
end Go.Proofs.YtobhpeockinnjaaGreatDoor
/- A seal that came in, opened. No conditions. -/
namespace Go.Proofs.YtobhpeockinnjaaGreatDoor
open Go Go.RowKit Go.ChangeShapes Go.WideShapes Go.ChangeAt Go.WideMaps Go.WideElems Go.Joins
variable {H : Type} {enc : TypeId × Value → H}
theorem cellsStr : Tryz.prog.cellsOf 9 = 1 := by kernel_rfl
set_option maxRecDepth 100000 in
/-- A field that is a slice of strings. -/
theorem field_strs {W : World} {v : Value} {n : Nat} {y : DataW H × List MemPlace} (hf : DataW.trod enc Tryz.prog W 0 (fun _ => true) true n 27 [v] = some y) :
    ∃ (A : Option Addr) (c : Nat) (l : List ByteArray), v = .slice A l.length c ∧ l.length ≤ 9223372036854775807 ∧ (∀ s ∈ l, s.size ≤ 9223372036854775807) ∧ Strs W W.heap.size A l ∧ l.length ≤ c := by
  rcases open_strings Tryz.underlying27 Tryz.underlying9 (by kernel_rfl) hf with ⟨hcs, _⟩ | ⟨a, len', cap', ss, hcs, _, hl, hm, hz, _, hcell, hws⟩
  · simp only [List.cons.injEq, and_true] at hcs
    subst hcs
    exact ⟨none, 0, [], rfl, by simp, by simp, Strs.nil _ _ _, by simp⟩
  · simp only [List.cons.injEq, and_true] at hcs
    subst hcs
    simp only [if_true] at hz
    unfold maxLen at hm
    have htl : (ss.take len').length = len' := by rw [List.length_take, hz]; omega
    refine ⟨some a, cap', ss.take len', by rw [htl], by rw [htl]; omega, fun s hs => hws s (List.mem_of_mem_take hs), ⟨fun h0 => ?_⟩, by rw [htl]; exact hl⟩
    rw [htl] at h0
    have h00 : a.add 0 = a := by unfold Addr.add; rw [if_pos rfl]
    obtain ⟨e, hb⟩ := addr_of_cell (h00 ▸ hcell 0 (by omega))
    refine ⟨a.block, a.off, by rw [← e], hb, fun j s hj => ?_⟩
    have hjl : j < len' := by
      have := (List.getElem?_eq_some_iff.1 hj).1
      rw [htl] at this; exact this
    have h1 := hcell j (by omega)
    rw [List.getElem?_take, if_pos hjl] at hj
    rw [List.getD_eq_getElem?_getD, hj] at h1
    have e2 : a.add j = ⟨a.block, a.off + j, none⟩ := by
      conv => lhs; rw [e]
      exact add_plain _ _ _
    rw [← e2]
    exact h1
set_option maxRecDepth 100000 in
/-- A seal. -/
theorem open_seal {W : World} {v : Value} {d : DataW H} {p : List MemPlace} {base : Nat} (hv : Value.okWide Tryz.prog W .any base 42 v) (h : DataW.Trod enc Tryz.prog W 0 (fun _ => true) true 42 v d p) :
    ∃ (i : Int) (A : Option Addr) (c : Nat) (l : List ByteArray) (A' : Option Addr) (c' : Nat) (l' : List ByteArray), v = .agg #[.int .i64 i, .slice A l.length c, .slice A' l'.length c'] ∧ (Lit.int .i64 i).wf = true ∧
      l.length ≤ 9223372036854775807 ∧ (∀ s ∈ l, s.size ≤ 9223372036854775807) ∧ Strs W W.heap.size A l ∧ l.length ≤ c ∧
      l'.length ≤ 9223372036854775807 ∧ (∀ s ∈ l', s.size ≤ 9223372036854775807) ∧ Strs W W.heap.size A' l' ∧ l'.length ≤ c' := by
  obtain ⟨v0, v1, v2, y0, y1, y2, n, rfl, rfl, rfl, h0, h1, h2⟩ := open_agg3 Tryz.underlying42 (by kernel_rfl) (by kernel_rfl) hv h
  obtain ⟨i, e0, _, wi⟩ := DataW.trod_int Tryz.underlying3 h0
  simp only [List.cons.injEq, and_true] at e0
  subst e0
  obtain ⟨A, c, l, rfl, a1, a2, a3, a4⟩ := field_strs h1
  obtain ⟨A', c', l', rfl, b1, b2, b3, b4⟩ := field_strs h2
  exact ⟨i, A, c, l, A', c', l', rfl, wi, a1, a2, a3, a4, b1, b2, b3, b4⟩
end Go.Proofs.YtobhpeockinnjaaGreatDoor
/- Codes that came in, opened. No conditions. -/
namespace Go.Proofs.YtobhpeockinnjaaGreatDoor
open Go Go.RowKit Go.ChangeShapes Go.WideShapes Go.ChangeAt Go.WideMaps Go.WideElems Go.Joins Go.Deep
variable {H : Type} {enc : TypeId × Value → H}
theorem cIntC : Tryz.prog.cellsOf 3 = 1 := by kernel_rfl
theorem cBoolC : Tryz.prog.cellsOf 4 = 1 := by kernel_rfl
theorem cItem : Tryz.prog.cellsOf 26 = 7 := by kernel_rfl
theorem cItems : Tryz.prog.cellsOf 22 = 1 := by kernel_rfl
theorem cCode : Tryz.prog.cellsOf 24 = 1 := by kernel_rfl
set_option maxRecDepth 100000 in
/-- The cells of an item that came in. -/
theorem trod_item {W : World} {k : Nat} {cs : List Value} {x : DataW H × List MemPlace} (h : DataW.trod enc Tryz.prog W 0 (fun _ => true) true k 26 cs = some x) :
    ∃ v : Dg.It, cs = (itV v).toList ∧ ItW v := by
  obtain ⟨xs, n, _, _, hlen, hxl, hf⟩ := DataW.trod_struct Tryz.underlying26 h
  rw [cItem] at hlen
  match cs, hlen with
  | [c0, c1, c2, c3, c4, c5, c6], _ =>
    match xs, hxl with
    | [y0, y1, y2, y3, y4, y5, y6], _ =>
      have f0 : DataW.trod enc Tryz.prog W 0 (fun _ => true) true n 3 [c0] = some y0 := by simpa [cIntC] using hf 0 _ rfl
      have f1 : DataW.trod enc Tryz.prog W 0 (fun _ => true) true n 9 [c1] = some y1 := by simpa [cellsStr] using hf 1 _ rfl
      have f2 : DataW.trod enc Tryz.prog W 0 (fun _ => true) true n 9 [c2] = some y2 := by simpa [cellsStr] using hf 2 _ rfl
      have f3 : DataW.trod enc Tryz.prog W 0 (fun _ => true) true n 9 [c3] = some y3 := by simpa [cellsStr] using hf 3 _ rfl
      have f4 : DataW.trod enc Tryz.prog W 0 (fun _ => true) true n 9 [c4] = some y4 := by simpa [cellsStr] using hf 4 _ rfl
      have f5 : DataW.trod enc Tryz.prog W 0 (fun _ => true) true n 9 [c5] = some y5 := by simpa [cellsStr] using hf 5 _ rfl
      have f6 : DataW.trod enc Tryz.prog W 0 (fun _ => true) true n 4 [c6] = some y6 := by simpa [cBoolC] using hf 6 _ rfl
      obtain ⟨m, e0, _, w0⟩ := DataW.trod_int Tryz.underlying3 f0
      obtain ⟨b1, e1, _, w1⟩ := DataW.trod_string Tryz.underlying9 f1
      obtain ⟨b2, e2, _, w2⟩ := DataW.trod_string Tryz.underlying9 f2
      obtain ⟨b3, e3, _, w3⟩ := DataW.trod_string Tryz.underlying9 f3
      obtain ⟨b4, e4, _, w4⟩ := DataW.trod_string Tryz.underlying9 f4
      obtain ⟨b5, e5, _, w5⟩ := DataW.trod_string Tryz.underlying9 f5
      obtain ⟨y, e6, _⟩ := DataW.trod_bool Tryz.underlying4 f6
      simp only [List.cons.injEq, and_true] at e0 e1 e2 e3 e4 e5 e6
      subst e0 e1 e2 e3 e4 e5 e6
      obtain ⟨m0, m1⟩ := bounds_i64 w0
      exact ⟨⟨m, b1, b2, b3, b4, b5, y⟩, rfl, ⟨m0, m1, w1, w2, w3, w4, w5⟩⟩
set_option maxRecDepth 100000 in
/-- A slice of items that came in. -/
theorem field_items {W : World} {v : Value} {n : Nat} {y : DataW H × List MemPlace} (hf : DataW.trod enc Tryz.prog W 0 (fun _ => true) true n 22 [v] = some y) :
    ∃ (A : Option Addr) (c : Nat) (l : List Dg.It), v = .slice A l.length c ∧ l.length ≤ 9223372036854775807 ∧ (∀ x ∈ l, ItW x) ∧ Its W W.heap.size A l ∧ l.length ≤ c := by
  rcases open_slice Tryz.underlying22 hf with ⟨hcs, _⟩ | ⟨a, len, cap, m, k, D, Pl, hcs, _, hl, hm, hmm, _, hi⟩
  · simp only [List.cons.injEq, and_true] at hcs
    subst hcs
    exact ⟨none, 0, [], rfl, by simp, by simp, Its.nil _ _ _, by simp⟩
  · simp only [List.cons.injEq, and_true] at hcs
    subst hcs
    simp only [if_true] at hmm
    unfold maxLen at hm
    rw [cItem] at hi
    have h1 : ∀ i, ∃ v : Dg.It, i < len → ItW v ∧ ∀ (j : Nat) (u : Value), (itV v)[j]? = some u → W.cell? ((a.add (i * 7)).add j) = some u := fun i => by
      by_cases hil : i < len
      · obtain ⟨cs', hc, ht⟩ := hi i (by omega)
        obtain ⟨v, hcs, hw⟩ := trod_item ht
        obtain ⟨_, hcl, hat⟩ := World.cells?_some hc
        refine ⟨v, fun _ => ⟨hw, fun j u hj => ?_⟩⟩
        have hj7 : j < 7 := (Array.getElem?_eq_some_iff.1 hj).1
        rw [hat j hj7, hcs, Array.getElem?_toList]
        exact hj
      · exact ⟨⟨0, ⟨#[]⟩, ⟨#[]⟩, ⟨#[]⟩, ⟨#[]⟩, ⟨#[]⟩, false⟩, fun h => absurd h hil⟩
    obtain ⟨f, hfv⟩ := Classical.axiomOfChoice h1
    have hlen : ((List.range len).map f).length = len := by rw [List.length_map, List.length_range]
    refine ⟨some a, cap, (List.range len).map f, by rw [hlen], by rw [hlen]; omega, fun v hv => ?_, ⟨fun h0 => ?_⟩, by rw [hlen]; exact hl⟩
    · obtain ⟨i, hir, rfl⟩ := List.mem_map.1 hv
      exact (hfv i (List.mem_range.1 hir)).1
    · rw [hlen] at h0
      obtain ⟨_, hc0⟩ := hfv 0 h0
      have h00 : (a.add (0 * 7)).add 0 = a := by unfold Addr.add; simp
      obtain ⟨e, hb⟩ := addr_of_cell (h00 ▸ hc0 0 _ rfl)
      refine ⟨a.block, a.off, by rw [← e], hb, fun j v hj i u hu => ?_⟩
      have hjl : j < len := by
        have := (List.getElem?_eq_some_iff.1 hj).1
        rw [hlen] at this; exact this
      rw [List.getElem?_map, List.getElem?_range hjl] at hj
      obtain rfl : f j = v := by simpa using hj
      obtain ⟨_, hc⟩ := hfv j hjl
      have e2 : (a.add (j * 7)).add i = ⟨a.block, a.off + j * 7 + i, none⟩ := by
        rw [e]
        rw [add_plain, add_plain]
      rw [← e2]
      exact hc i u hu
set_option maxRecDepth 100000 in
/-- A code. -/
theorem open_code {W : World} {v : Value} {d : DataW H} {p : List MemPlace} {base : Nat} (hv : Value.okWide Tryz.prog W .any base 24 v) (h : DataW.Trod enc Tryz.prog W 0 (fun _ => true) true 24 v d p) :
    ∃ (A : Option Addr) (c : Nat) (l : List Dg.It), v = .agg #[.slice A l.length c] ∧ l.length ≤ 9223372036854775807 ∧ (∀ x ∈ l, ItW x) ∧ Its W W.heap.size A l ∧ l.length ≤ c := by
  obtain ⟨cs, rfl, hsz⟩ := okWide_struct Tryz.underlying24 hv
  obtain ⟨l⟩ := cs
  match l, hsz.trans cCode with
  | [c0], _ =>
    obtain ⟨fuel, hf0⟩ := h
    obtain ⟨xs, n, _, _, _, hxl, hf⟩ := DataW.trod_struct Tryz.underlying24 hf0
    match xs, hxl with
    | [y0], _ =>
      have f0 : DataW.trod enc Tryz.prog W 0 (fun _ => true) true n 22 [c0] = some y0 := by simpa [Value.cells, cItems] using hf 0 _ rfl
      obtain ⟨A, c, l, rfl, a1, a2, a3, a4⟩ := field_items f0
      exact ⟨A, c, l, rfl, a1, a2, a3, a4⟩
end Go.Proofs.YtobhpeockinnjaaGreatDoor

