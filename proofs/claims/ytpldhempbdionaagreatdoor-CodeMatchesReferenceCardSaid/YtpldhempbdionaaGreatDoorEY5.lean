/- Walks and laws of this seat, several texts in one. No conditions but those that each theorem states. -/
import Derived.Test.YtpldhempbdionaaGreatDoorEY4
import Derived.HandedShaped
import Derived.Shelf.Vars
import Derived.Below
import Derived.ChangeSame
import Derived.ProofKit
import Derived.OpenShut
import Derived.LaidMore
import Derived.Lay
import Derived.SevenTiedAt
import Derived.Stop.Joined
import Derived.SliceStrings
import Derived.Lib.SmallJoins
import Derived.Deep.Slices
/- CodeMatchesReference. No conditions but those that each theorem states. -/
namespace Go.Proofs.YtpldhempbdionaaGreatDoor
open Go Go.RowKit Go.Sort Go.Maps
/-- What the law holds: the code in its variable, its items, the tables; two codes that were read. -/
structure CX (g : Nat) (A : Option Addr) (n c : Nat) (l : List Dg.It) (bx by' : Nat) (AX AY : Option Addr) (m cX cY : Nat) (Y : List Dg.It) (X : World) : Prop where
  row : X.heap[g]? = some (.cells #[.slice A n c] 24 (0, 0))
  its : Its X X.heap.size A l
  env : Env X
  rx : X.heap[bx]? = some (.cells #[.slice AX m cX] 24 (0, 0))
  ry : X.heap[by']? = some (.cells #[.slice AY m cY] 24 (0, 0))
  ix : Its X X.heap.size AX Y
  iy : Its X X.heap.size AY Y
theorem CX.below {g : Nat} {A : Option Addr} {n c : Nat} {l : List Dg.It} {bx by' : Nat} {AX AY : Option Addr} {m cX cY : Nat} {Y : List Dg.It} {X X' : World} (h : CX g A n c l bx by' AX AY m cX cY Y X) (hb : Below X.heap.size X X') : CX g A n c l bx by' AX AY m cX cY Y X' :=
  ⟨iNext h.row hb, h.its.keep hb, h.env.next hb, iNext h.rx hb, iNext h.ry hb, h.ix.keep hb, h.iy.keep hb⟩
theorem below_size {l : List Dg.It} (id : ByteArray) (h : l.length ≤ 1048576) : (belowC l id).length ≤ 9223372036854775807 := by
  unfold belowC
  split
  · exact Nat.le_trans (belowF_len l id _) (by omega)
  · simp
theorem leavesC_len18 (l : List Dg.It) (h : l.length ≤ 1048576) : (Dg.leavesC l).length ≤ 9223372036854775807 := by
  unfold Dg.leavesC
  split
  · rw [Dg.leaves_len]
    exact Nat.le_trans List.countP_le_length (by omega)
  · simp
theorem joined_small {l : List Dg.It} (h1 : l.length ≤ 30) (h2 : ∀ x ∈ l, ∀ s ∈ Dg.fieldsI x, s.size ≤ 500) : (Dg.joinedL (Dg.fieldsC l)).length ≤ 1099511627776 := by
  have h3 := Dg.joinedL_len_le (Dg.fieldsC l) 500 (fieldsC_size h2)
  rw [fieldsC_len] at h3
  have h4 : 6 * l.length * (500 + 21) ≤ 6 * 30 * (500 + 21) := Nat.mul_le_mul_right _ (by omega)
  omega
set_option maxRecDepth 100000 in
set_option maxHeartbeats 32000000 in
theorem law_ref18 (l : List Dg.It) (A : Option Addr) (n c : Nat) (hl : l.length = n) (hw : ∀ x ∈ l, ItW x) (hn : n ≤ 9223372036854775807) (id dv t : ByteArray) (hid : id.size ≤ 9223372036854775807) (hdv : dv.size ≤ 9223372036854775807) (ht : t.size ≤ 9223372036854775807) (w : World) (he : Env w) (hm : MaxI w) (hI : Its w w.heap.size A l) :
    Calls Tryz.prog 7 #[.agg #[.slice A n c], .string id, .string dv, .string t] w fun e w' => e = .returned (.bool true) ∧ Below w.heap.size w w' := by
  have hb1 := Below.news (Below.refl w.heap.size w) (.cells #[.slice A n c] 24)
  have hS1 : CS w.heap.size A n c l none [] (w.alloc (.cells #[.slice A n c] 24)) := ⟨heap_alloc_new w (.cells #[.slice A n c] 24), hI.keep hb1, he.next hb1, Strs.nil _ _ _⟩
  have HL := hide hl; have HW := hide hw; have HM := hide hm
  clear hl hw hI he hm
  have hmx : Tryz.prog.follows .mixedOrders = true := by kernel_rfl
  go_enter Tryz.func7, Tryz.ntmps7
  go_wp2_with fail
  generalize w.alloc (.cells #[.slice A n c] 24) = w1 at *
  refine (head_any w1 hS1.env).mono ?_
  rintro e w2 ⟨rfl, hx2⟩
  have hS2 := hS1.below hx2
  have hb2 := bnext hb1 hx2
  clear hS1 hb1 hx2
  try clear hc1
  have hc1 := iCells0 hS2.row
  obtain ⟨F, hF⟩ : ∃ F, fewC l 30 = F := ⟨_, rfl⟩
  go_wp2_with fail
  refine (few1_of l A n c HL.out hn w2 _ rfl hS2.its F hF).mono ?_
  rintro e w3 ⟨rfl, hx3⟩
  have hS3 := hS2.below hx3
  have hb3 := bnext hb2 hx3
  clear hS2 hb2 hx3
  try clear hc1
  have hc1 := iCells0 hS3.row
  cases F with
  | false =>
    clear hF hc1
    go_wp2
    go_ret
    exact ⟨rfl, hb3⟩
  | true =>
    by_cases hzid : 100 < id.size
    · have hziid : (100 : Int) < (id.size : Int) := by omega
      clear hF hc1
      go_wp2
      go_ret
      exact ⟨rfl, hb3⟩
    · have hziid : ¬ (100 : Int) < (id.size : Int) := by omega
      by_cases hzdv : 100 < dv.size
      · have hzidv : (100 : Int) < (dv.size : Int) := by omega
        clear hF hc1
        go_wp2
        go_ret
        exact ⟨rfl, hb3⟩
      · have hzidv : ¬ (100 : Int) < (dv.size : Int) := by omega
        by_cases hzt : 5000 < t.size
        · have hzit : (5000 : Int) < (t.size : Int) := by omega
          clear hF hc1
          go_wp2
          go_ret
          exact ⟨rfl, hb3⟩
        · have hzit : ¬ (5000 : Int) < (t.size : Int) := by omega
          obtain ⟨n30, z30⟩ := few_sizes hF
          have hjs := joined_small n30 z30
          rw [HL.out] at n30
          have ZL := hide z30; have HJS := hide hjs
          clear hF z30 hjs
          obtain ⟨S1, E1, hT⟩ : ∃ S E, Dg.textC l = (S, E) := ⟨_, _, rfl⟩
          obtain ⟨Y, E2, hY⟩ : ∃ Y E, Dg.parseO t = (Y, E) := ⟨_, _, rfl⟩
          obtain ⟨m, hk⟩ : ∃ m, Y.length = m := ⟨_, rfl⟩
          have HT := hide hT; have HY := hide hY; have HK := hide hk
          have hmz : m ≤ 9223372036854775807 := by
            have h9 := hY
            unfold Dg.parseO at h9
            rw [if_neg (by omega)] at h9
            split at h9
            · rename_i hg
              injection h9 with h1 _
              rw [← hk, ← h1]
              have := Dg.good_len hg.1
              omega
            · injection h9 with h1 _
              rw [← hk, ← h1]
              simp
          clear hT hY hk
          go_wp2_with fail
          refine (Code.text_of l A n c HL.out HW.out (by omega) w3 hS3.its (few_up ZL.out (by decide)) S1 E1 HT.out).mono ?_
          rintro e w4 ⟨rfl, hx4⟩
          have hS4 := hS3.below hx4
          have hb4 := bnext hb3 hx4
          clear hS3 hb3 hx4
          try clear hc1
          have hc1 := iCells0 hS4.row
          go_wp2_with fail
          refine (rtext_of l A n c HL.out HW.out (by omega) w4 hS4.its (few_up ZL.out (by decide)) S1 E1 HT.out).mono ?_
          rintro e w5 ⟨rfl, hx5⟩
          have hS5 := hS4.below hx5
          have hb5 := bnext hb4 hx5
          clear hS4 hb4 hx5
          try clear hc1
          have hc1 := iCells0 hS5.row
          go_wp2_with fail
          refine (Code.parse_of t (by omega) (parse_small (by omega)) w5 (HM.out.next hb5) Y E2 HY.out).mono ?_
          rintro e w6 ⟨⟨AX, cX, rfl, hcX, hIX⟩, hx6⟩
          have hS6 := hS5.below hx6
          have hb6 := bnext hb5 hx6
          clear hS5 hb5 hx6
          rw [HK.out] at hcX ⊢
          have hn7 := Below.news (Below.refl w6.heap.size w6) (.cells #[.slice AX m cX] 24)
          have hrAX := heap_alloc_new w6 (.cells #[.slice AX m cX] 24)
          have hIX2 := hIX.keep hn7
          have hS7 := hS6.below hn7
          have hb7 := bnext hb6 hn7
          clear hS6 hb6 hIX hn7 hc1
          try clear hc1
          have hc1 := iCells0 hS7.row
          go_wp2_with fail
          generalize w6.alloc (.cells #[.slice AX m cX] 24) = w7 at *
          generalize w6.heap.size = bX at *
          refine (rparse_of t (by omega) w7 Y E2 (by rw [Dg.parse_same 2002 (by decide)]; exact HY.out)).mono ?_
          rintro e w8 ⟨⟨AY, cY, rfl, hcY, hIY⟩, hx8⟩
          have hS8 := hS7.below hx8
          have hb8 := bnext hb7 hx8
          have hrX2 := iNext hrAX hx8
          have hIX3 := hIX2.keep hx8
          clear hS7 hb7 hx8
          rw [HK.out] at hcY ⊢
          have hn9 := Below.news (Below.refl w8.heap.size w8) (.cells #[.slice AY m cY] 24)
          have hrAY := heap_alloc_new w8 (.cells #[.slice AY m cY] 24)
          have hIY2 := hIY.keep hn9
          have hS9 := hS8.below hn9
          have hb9 := bnext hb8 hn9
          have hrX3 := iNext hrX2 hn9
          have hIX4 := hIX3.keep hn9
          clear hS8 hb8 hIY hn9 hc1
          try clear hc1
          have hc1 := iCells0 hS9.row
          have hCX : CX w.heap.size A n c l bX w8.heap.size AX AY m cX cY Y (w8.alloc (.cells #[.slice AY m cY] 24)) := ⟨hS9.row, hS9.its, hS9.env, hrX3, hrAY, hIX4, hIY2⟩
          clear hS9 hrX3 hrAY hIX4 hIY2 hrX2 hIX3 hrAX hIX2
          obtain ⟨V, hV⟩ : ∃ V, Dg.validC l = V := ⟨_, rfl⟩
          obtain ⟨K0, hK0⟩ : ∃ K, findX l id = K := ⟨_, rfl⟩
          obtain ⟨LB, hLB⟩ : ∃ L, belowC l id = L := ⟨_, rfl⟩
          obtain ⟨q, hq⟩ : ∃ q, LB.length = q := ⟨_, rfl⟩
          have hqz : q ≤ 9223372036854775807 := by rw [← hq, ← hLB]; exact below_size id (by rw [HL.out]; omega)
          obtain ⟨U, hU⟩ : ∃ U, underC l id dv = U := ⟨_, rfl⟩
          obtain ⟨D, hD⟩ : ∃ D, Dg.digestC l = D := ⟨_, rfl⟩
          obtain ⟨LV, hLV⟩ : ∃ L, Dg.leavesC l = L := ⟨_, rfl⟩
          obtain ⟨p, hp⟩ : ∃ p, LV.length = p := ⟨_, rfl⟩
          have hpz : p ≤ 9223372036854775807 := by rw [← hp, ← hLV]; exact leavesC_len18 l (by rw [HL.out]; omega)
          have eVV : (V == V) = true := beq_self_eq_true _
          have eKK : (K0 == K0) = true := beq_self_eq_true _
          have eUU : (U == U) = true := beq_self_eq_true _
          have eDD : (D.toList == D.toList) = true := beq_self_eq_true _
          have eSS : (S1.toList == S1.toList) = true := beq_self_eq_true _
          have eE1 : (E1 == E1) = true := beq_self_eq_true _
          have eE2 : (E2 == E2) = true := beq_self_eq_true _
          have HV := hide hV; have HK0 := hide hK0; have HLB := hide hLB; have HQ := hide hq; have HU := hide hU; have HD := hide hD; have HLV := hide hLV; have HP := hide hp
          clear hV hK0 hLB hq hU hD hLV hp
          go_upto_region 8 with (fail)
          generalize w8.alloc (.cells #[.slice AY m cY] 24) = w9 at *
          generalize w8.heap.size = bY at *
          try clear hc1
          try clear hc2
          refine wp_region_noPanic ?_
          refine wp_region_L (CX w.heap.size A n c l bX bY AX AY m cX cY Y) 35 hmx ?_
          have hdr := (Below.refl w9.heap.size w9).drew
          have hS10 : (CX w.heap.size A n c l bX bY AX AY m cX cY Y) w9.drew := hCX.below hdr
          have hb10 := bnext hb9 hdr
          clear hdr hCX hb9
          generalize w9.drew = w10 at *
          refine wpAnyL_take (i := 0) (f0 := 37) (v := ?_) rfl (by decide +kernel) (by decide +kernel) (by decide +kernel) (by decide +kernel) (by decide +kernel) (fun _ _ _ h => h) (Or.inl ⟨by rfl, ?_⟩) hS10 ?_
          rotate_left
          · intro wS hS; have hc1 := iCells0 hS.row; go_simp; (try with_reducible rfl)
          simp only [Act.put, List.getElem_toArray, List.getElem_cons_zero, List.setIfInBounds_toArray, List.set_cons_succ, List.set_cons_zero]
          refine wpAnyL_take (i := 2) (f0 := 37) (v := ?_) rfl (by decide +kernel) (by decide +kernel) (by decide +kernel) (by decide +kernel) (by decide +kernel) (fun _ _ _ h => h) (Or.inl ⟨by rfl, ?_⟩) hS10 ?_
          rotate_left
          · intro wS hS; have hc1 := iCells0 hS.row; go_simp; (try with_reducible rfl)
          simp only [Act.put, List.getElem_toArray, List.getElem_cons_succ, List.getElem_cons_zero, List.setIfInBounds_toArray, List.set_cons_succ, List.set_cons_zero]
          refine wpAnyL_one (i := 1) (by decide +kernel) (by rfl) (fun K hK => ?_)
          rw [if_pos (by rfl)]
          go_simp
          refine (Code.valid_of l A n c HL.out HW.out (by omega) w10 hS10.its V HV.out).mono ?_
          rintro e w11 ⟨rfl, hx11⟩
          have hS11 : (CX w.heap.size A n c l bX bY AX AY m cX cY Y) w11 := hS10.below hx11
          have hb11 := bnext hb10 hx11
          refine hK.out _ _ (Or.inr hS11) ?_
          clear hK K hS10 hb10 hx11
          try simp only [Act.put, List.getElem_toArray, List.getElem_cons_succ, List.getElem_cons_zero, List.setIfInBounds_toArray, List.set_cons_succ, List.set_cons_zero]
          refine wpAnyL_one (i := 3) (by decide +kernel) (by rfl) (fun K hK => ?_)
          rw [if_pos (by rfl)]
          go_simp
          refine (rvalidC_of l A n c HL.out HW.out (by omega) w11 hS11.its V HV.out).mono ?_
          rintro e w12 ⟨rfl, hx12⟩
          have hS12 : (CX w.heap.size A n c l bX bY AX AY m cX cY Y) w12 := hS11.below hx12
          have hb12 := bnext hb11 hx12
          refine hK.out _ _ (Or.inr hS12) ?_
          clear hK K hS11 hb11 hx12
          try simp only [Act.put, List.getElem_toArray, List.getElem_cons_succ, List.getElem_cons_zero, List.setIfInBounds_toArray, List.set_cons_succ, List.set_cons_zero]
          refine wpAnyL_take (i := 4) (f0 := 37) (v := ?_) rfl (by decide +kernel) (by decide +kernel) (by decide +kernel) (by decide +kernel) (by decide +kernel) (fun _ _ _ h => h) (Or.inl ⟨by rfl, ?_⟩) hS12 ?_
          rotate_left
          · intro wS hS; go_simp; (try with_reducible rfl)
          simp only [Act.put, List.getElem_toArray, List.getElem_cons_succ, List.getElem_cons_zero, List.setIfInBounds_toArray, List.set_cons_succ, List.set_cons_zero]
          refine wpAnyL_take (i := 5) (f0 := 37) (v := ?_) rfl (by decide +kernel) (by decide +kernel) (by decide +kernel) (by decide +kernel) (by decide +kernel) (fun _ _ _ h => h) (Or.inl ⟨by rfl, ?_⟩) hS12 ?_
          rotate_left
          · intro wS hS; go_simp; (try with_reducible rfl)
          simp only [Act.put, List.getElem_toArray, List.getElem_cons_succ, List.getElem_cons_zero, List.setIfInBounds_toArray, List.set_cons_succ, List.set_cons_zero]
          refine wpAnyL_take (i := 6) (f0 := 37) (v := ?_) rfl (by decide +kernel) (by decide +kernel) (by decide +kernel) (by decide +kernel) (by decide +kernel) (fun _ _ _ h => h) (Or.inl ⟨by rfl, ?_⟩) hS12 ?_
          rotate_left
          · intro wS hS; have hc1 := iCells0 hS.row; go_simp; (try with_reducible rfl)
          simp only [Act.put, List.getElem_toArray, List.getElem_cons_succ, List.getElem_cons_zero, List.setIfInBounds_toArray, List.set_cons_succ, List.set_cons_zero]
          refine wpAnyL_take (i := 7) (f0 := 37) (v := ?_) rfl (by decide +kernel) (by decide +kernel) (by decide +kernel) (by decide +kernel) (by decide +kernel) (fun _ _ _ h => h) (Or.inl ⟨by rfl, ?_⟩) hS12 ?_
          rotate_left
          · intro wS hS; go_simp; (try with_reducible rfl)
          simp only [Act.put, List.getElem_toArray, List.getElem_cons_succ, List.getElem_cons_zero, List.setIfInBounds_toArray, List.set_cons_succ, List.set_cons_zero]
          refine wpAnyL_take (i := 9) (f0 := 37) (v := ?_) rfl (by decide +kernel) (by decide +kernel) (by decide +kernel) (by decide +kernel) (by decide +kernel) (fun _ _ _ h => h) (Or.inl ⟨by rfl, ?_⟩) hS12 ?_
          rotate_left
          · intro wS hS; have hc1 := iCells0 hS.row; go_simp; (try with_reducible rfl)
          simp only [Act.put, List.getElem_toArray, List.getElem_cons_succ, List.getElem_cons_zero, List.setIfInBounds_toArray, List.set_cons_succ, List.set_cons_zero]
          refine wpAnyL_take (i := 10) (f0 := 37) (v := ?_) rfl (by decide +kernel) (by decide +kernel) (by decide +kernel) (by decide +kernel) (by decide +kernel) (fun _ _ _ h => h) (Or.inl ⟨by rfl, ?_⟩) hS12 ?_
          rotate_left
          · intro wS hS; go_simp; (try with_reducible rfl)
          simp only [Act.put, List.getElem_toArray, List.getElem_cons_succ, List.getElem_cons_zero, List.setIfInBounds_toArray, List.set_cons_succ, List.set_cons_zero]
          refine wpAnyL_one (i := 8) (by decide +kernel) (by rfl) (fun K hK => ?_)
          rw [if_pos (by rfl)]
          go_simp
          refine (Code.find_of l A n c HL.out (by omega) id w12 hS12.its K0 HK0.out).mono ?_
          rintro e w13 ⟨rfl, hx13⟩
          have hS13 : (CX w.heap.size A n c l bX bY AX AY m cX cY Y) w13 := hS12.below hx13
          have hb13 := bnext hb12 hx13
          refine hK.out _ _ (Or.inr hS13) ?_
          clear hK K hS12 hb12 hx13
          try simp only [Act.put, List.getElem_toArray, List.getElem_cons_succ, List.getElem_cons_zero, List.setIfInBounds_toArray, List.set_cons_succ, List.set_cons_zero]
          refine wpAnyL_one (i := 11) (by decide +kernel) (by rfl) (fun K hK => ?_)
          rw [if_pos (by rfl)]
          go_simp
          refine (rfind_of l A n c HL.out (by omega) id w13 hS13.its K0 HK0.out).mono ?_
          rintro e w14 ⟨rfl, hx14⟩
          have hS14 : (CX w.heap.size A n c l bX bY AX AY m cX cY Y) w14 := hS13.below hx14
          have hb14 := bnext hb13 hx14
          refine hK.out _ _ (Or.inr hS14) ?_
          clear hK K hS13 hb13 hx14
          try simp only [Act.put, List.getElem_toArray, List.getElem_cons_succ, List.getElem_cons_zero, List.setIfInBounds_toArray, List.set_cons_succ, List.set_cons_zero]
          refine wpAnyL_take (i := 12) (f0 := 37) (v := ?_) rfl (by decide +kernel) (by decide +kernel) (by decide +kernel) (by decide +kernel) (by decide +kernel) (fun _ _ _ h => h) (Or.inl ⟨by rfl, ?_⟩) hS14 ?_
          rotate_left
          · intro wS hS; go_simp; (try with_reducible rfl)
          simp only [Act.put, List.getElem_toArray, List.getElem_cons_succ, List.getElem_cons_zero, List.setIfInBounds_toArray, List.set_cons_succ, List.set_cons_zero]
          refine wpAnyL_take (i := 13) (f0 := 37) (v := ?_) rfl (by decide +kernel) (by decide +kernel) (by decide +kernel) (by decide +kernel) (by decide +kernel) (fun _ _ _ h => h) (Or.inl ⟨by rfl, ?_⟩) hS14 ?_
          rotate_left
          · intro wS hS; go_simp; (try with_reducible rfl)
          simp only [Act.put, List.getElem_toArray, List.getElem_cons_succ, List.getElem_cons_zero, List.setIfInBounds_toArray, List.set_cons_succ, List.set_cons_zero]
          refine wpAnyL_take (i := 14) (f0 := 37) (v := ?_) rfl (by decide +kernel) (by decide +kernel) (by decide +kernel) (by decide +kernel) (by decide +kernel) (fun _ _ _ h => h) (Or.inl ⟨by rfl, ?_⟩) hS14 ?_
          rotate_left
          · intro wS hS; go_simp; (try with_reducible rfl)
          simp only [Act.put, List.getElem_toArray, List.getElem_cons_succ, List.getElem_cons_zero, List.setIfInBounds_toArray, List.set_cons_succ, List.set_cons_zero]
          refine wpAnyL_take (i := 15) (f0 := 37) (v := ?_) rfl (by decide +kernel) (by decide +kernel) (by decide +kernel) (by decide +kernel) (by decide +kernel) (fun _ _ _ h => h) (Or.inl ⟨by rfl, ?_⟩) hS14 ?_
          rotate_left
          · intro wS hS; have hc1 := iCells0 hS.row; go_simp; (try with_reducible rfl)
          simp only [Act.put, List.getElem_toArray, List.getElem_cons_succ, List.getElem_cons_zero, List.setIfInBounds_toArray, List.set_cons_succ, List.set_cons_zero]
          refine wpAnyL_take (i := 16) (f0 := 37) (v := ?_) rfl (by decide +kernel) (by decide +kernel) (by decide +kernel) (by decide +kernel) (by decide +kernel) (fun _ _ _ h => h) (Or.inl ⟨by rfl, ?_⟩) hS14 ?_
          rotate_left
          · intro wS hS; go_simp; (try with_reducible rfl)
          simp only [Act.put, List.getElem_toArray, List.getElem_cons_succ, List.getElem_cons_zero, List.setIfInBounds_toArray, List.set_cons_succ, List.set_cons_zero]
          refine wpAnyL_take (i := 18) (f0 := 37) (v := ?_) rfl (by decide +kernel) (by decide +kernel) (by decide +kernel) (by decide +kernel) (by decide +kernel) (fun _ _ _ h => h) (Or.inl ⟨by rfl, ?_⟩) hS14 ?_
          rotate_left
          · intro wS hS; have hc1 := iCells0 hS.row; go_simp; (try with_reducible rfl)
          simp only [Act.put, List.getElem_toArray, List.getElem_cons_succ, List.getElem_cons_zero, List.setIfInBounds_toArray, List.set_cons_succ, List.set_cons_zero]
          refine wpAnyL_take (i := 19) (f0 := 37) (v := ?_) rfl (by decide +kernel) (by decide +kernel) (by decide +kernel) (by decide +kernel) (by decide +kernel) (fun _ _ _ h => h) (Or.inl ⟨by rfl, ?_⟩) hS14 ?_
          rotate_left
          · intro wS hS; go_simp; (try with_reducible rfl)
          simp only [Act.put, List.getElem_toArray, List.getElem_cons_succ, List.getElem_cons_zero, List.setIfInBounds_toArray, List.set_cons_succ, List.set_cons_zero]
          refine wpAnyL_one (i := 17) (by decide +kernel) (by rfl) (fun K hK => ?_)
          rw [if_pos (by rfl)]
          go_simp
          refine (Code.below_of l A n c HL.out HW.out (by omega) id w14 hS14.its LB HLB.out).mono ?_
          rintro e w15 ⟨⟨AB1, cB1, rfl, hcB1, hsB1⟩, hx15⟩
          rw [HQ.out] at hcB1 ⊢
          have hS15 : (CX w.heap.size A n c l bX bY AX AY m cX cY Y) w15 := hS14.below hx15
          have hb15 := bnext hb14 hx15
          refine hK.out _ _ (Or.inr hS15) ?_
          clear hK K hS14 hb14 hx15
          try simp only [Act.put, List.getElem_toArray, List.getElem_cons_succ, List.getElem_cons_zero, List.setIfInBounds_toArray, List.set_cons_succ, List.set_cons_zero]
          refine wpAnyL_one (i := 20) (by decide +kernel) (by rfl) (fun K hK => ?_)
          rw [if_pos (by rfl)]
          go_simp
          refine (rbelow_of l A n c HL.out HW.out (by omega) id w15 hS15.its LB HLB.out q HQ.out).mono ?_
          rintro e w16 ⟨⟨AB2, cB2, rfl, hcB2, hsB2⟩, hx16⟩
          have hS16 : (CX w.heap.size A n c l bX bY AX AY m cX cY Y) w16 := hS15.below hx16
          have hb16 := bnext hb15 hx16
          have hsB3 := keepS hsB1 hx16
          refine hK.out _ _ (Or.inr hS16) ?_
          clear hK K hS15 hb15 hx16
          try simp only [Act.put, List.getElem_toArray, List.getElem_cons_succ, List.getElem_cons_zero, List.setIfInBounds_toArray, List.set_cons_succ, List.set_cons_zero]
          refine wpAnyL_one (i := 21) (by decide +kernel) (by rfl) (fun K hK => ?_)
          rw [if_pos (by rfl)]
          go_simp
          refine (same_of AB1 AB2 cB1 cB2 LB LB q q HQ.out HQ.out true (same_refl LB) w16 hqz hqz hsB3 hsB2).mono ?_
          rintro e w17 ⟨rfl, hx17⟩
          have hS17 : (CX w.heap.size A n c l bX bY AX AY m cX cY Y) w17 := hS16.below hx17
          have hb17 := bnext hb16 hx17
          refine hK.out _ _ (Or.inr hS17) ?_
          clear hK K hS16 hb16 hx17
          try simp only [Act.put, List.getElem_toArray, List.getElem_cons_succ, List.getElem_cons_zero, List.setIfInBounds_toArray, List.set_cons_succ, List.set_cons_zero]
          refine wpAnyL_take (i := 22) (f0 := 37) (v := ?_) rfl (by decide +kernel) (by decide +kernel) (by decide +kernel) (by decide +kernel) (by decide +kernel) (fun _ _ _ h => h) (Or.inl ⟨by rfl, ?_⟩) hS17 ?_
          rotate_left
          · intro wS hS; go_simp; (try with_reducible rfl)
          simp only [Act.put, List.getElem_toArray, List.getElem_cons_succ, List.getElem_cons_zero, List.setIfInBounds_toArray, List.set_cons_succ, List.set_cons_zero]
          refine wpAnyL_take (i := 23) (f0 := 37) (v := ?_) rfl (by decide +kernel) (by decide +kernel) (by decide +kernel) (by decide +kernel) (by decide +kernel) (fun _ _ _ h => h) (Or.inl ⟨by rfl, ?_⟩) hS17 ?_
          rotate_left
          · intro wS hS; go_simp; (try with_reducible rfl)
          simp only [Act.put, List.getElem_toArray, List.getElem_cons_succ, List.getElem_cons_zero, List.setIfInBounds_toArray, List.set_cons_succ, List.set_cons_zero]
          refine wpAnyL_take (i := 24) (f0 := 37) (v := ?_) rfl (by decide +kernel) (by decide +kernel) (by decide +kernel) (by decide +kernel) (by decide +kernel) (fun _ _ _ h => h) (Or.inl ⟨by rfl, ?_⟩) hS17 ?_
          rotate_left
          · intro wS hS; have hc1 := iCells0 hS.row; go_simp; (try with_reducible rfl)
          simp only [Act.put, List.getElem_toArray, List.getElem_cons_succ, List.getElem_cons_zero, List.setIfInBounds_toArray, List.set_cons_succ, List.set_cons_zero]
          refine wpAnyL_take (i := 25) (f0 := 37) (v := ?_) rfl (by decide +kernel) (by decide +kernel) (by decide +kernel) (by decide +kernel) (by decide +kernel) (fun _ _ _ h => h) (Or.inl ⟨by rfl, ?_⟩) hS17 ?_
          rotate_left
          · intro wS hS; go_simp; (try with_reducible rfl)
          simp only [Act.put, List.getElem_toArray, List.getElem_cons_succ, List.getElem_cons_zero, List.setIfInBounds_toArray, List.set_cons_succ, List.set_cons_zero]
          refine wpAnyL_take (i := 26) (f0 := 37) (v := ?_) rfl (by decide +kernel) (by decide +kernel) (by decide +kernel) (by decide +kernel) (by decide +kernel) (fun _ _ _ h => h) (Or.inl ⟨by rfl, ?_⟩) hS17 ?_
          rotate_left
          · intro wS hS; go_simp; (try with_reducible rfl)
          simp only [Act.put, List.getElem_toArray, List.getElem_cons_succ, List.getElem_cons_zero, List.setIfInBounds_toArray, List.set_cons_succ, List.set_cons_zero]
          refine wpAnyL_take (i := 28) (f0 := 37) (v := ?_) rfl (by decide +kernel) (by decide +kernel) (by decide +kernel) (by decide +kernel) (by decide +kernel) (fun _ _ _ h => h) (Or.inl ⟨by rfl, ?_⟩) hS17 ?_
          rotate_left
          · intro wS hS; have hc1 := iCells0 hS.row; go_simp; (try with_reducible rfl)
          simp only [Act.put, List.getElem_toArray, List.getElem_cons_succ, List.getElem_cons_zero, List.setIfInBounds_toArray, List.set_cons_succ, List.set_cons_zero]
          refine wpAnyL_take (i := 29) (f0 := 37) (v := ?_) rfl (by decide +kernel) (by decide +kernel) (by decide +kernel) (by decide +kernel) (by decide +kernel) (fun _ _ _ h => h) (Or.inl ⟨by rfl, ?_⟩) hS17 ?_
          rotate_left
          · intro wS hS; go_simp; (try with_reducible rfl)
          simp only [Act.put, List.getElem_toArray, List.getElem_cons_succ, List.getElem_cons_zero, List.setIfInBounds_toArray, List.set_cons_succ, List.set_cons_zero]
          refine wpAnyL_take (i := 30) (f0 := 37) (v := ?_) rfl (by decide +kernel) (by decide +kernel) (by decide +kernel) (by decide +kernel) (by decide +kernel) (fun _ _ _ h => h) (Or.inl ⟨by rfl, ?_⟩) hS17 ?_
          rotate_left
          · intro wS hS; go_simp; (try with_reducible rfl)
          simp only [Act.put, List.getElem_toArray, List.getElem_cons_succ, List.getElem_cons_zero, List.setIfInBounds_toArray, List.set_cons_succ, List.set_cons_zero]
          refine wpAnyL_one (i := 27) (by decide +kernel) (by rfl) (fun K hK => ?_)
          rw [if_pos (by rfl)]
          go_simp
          refine (Code.under_of l A n c HL.out HW.out (by omega) id dv w17 hS17.its U HU.out).mono ?_
          rintro e w18 ⟨rfl, hx18⟩
          have hS18 : (CX w.heap.size A n c l bX bY AX AY m cX cY Y) w18 := hS17.below hx18
          have hb18 := bnext hb17 hx18
          refine hK.out _ _ (Or.inr hS18) ?_
          clear hK K hS17 hb17 hx18
          try simp only [Act.put, List.getElem_toArray, List.getElem_cons_succ, List.getElem_cons_zero, List.setIfInBounds_toArray, List.set_cons_succ, List.set_cons_zero]
          refine wpAnyL_one (i := 31) (by decide +kernel) (by rfl) (fun K hK => ?_)
          rw [if_pos (by rfl)]
          go_simp
          refine (runder_of l A n c HL.out HW.out (by omega) id dv w18 hS18.its U HU.out).mono ?_
          rintro e w19 ⟨rfl, hx19⟩
          have hS19 : (CX w.heap.size A n c l bX bY AX AY m cX cY Y) w19 := hS18.below hx19
          have hb19 := bnext hb18 hx19
          refine hK.out _ _ (Or.inr hS19) ?_
          clear hK K hS18 hb18 hx19
          try simp only [Act.put, List.getElem_toArray, List.getElem_cons_succ, List.getElem_cons_zero, List.setIfInBounds_toArray, List.set_cons_succ, List.set_cons_zero]
          refine wpAnyL_take (i := 32) (f0 := 37) (v := ?_) rfl (by decide +kernel) (by decide +kernel) (by decide +kernel) (by decide +kernel) (by decide +kernel) (fun _ _ _ h => h) (Or.inl ⟨by rfl, ?_⟩) hS19 ?_
          rotate_left
          · intro wS hS; go_simp; (try with_reducible rfl)
          simp only [Act.put, List.getElem_toArray, List.getElem_cons_succ, List.getElem_cons_zero, List.setIfInBounds_toArray, List.set_cons_succ, List.set_cons_zero]
          refine wpAnyL_take (i := 33) (f0 := 37) (v := ?_) rfl (by decide +kernel) (by decide +kernel) (by decide +kernel) (by decide +kernel) (by decide +kernel) (fun _ _ _ h => h) (Or.inl ⟨by rfl, ?_⟩) hS19 ?_
          rotate_left
          · intro wS hS; go_simp; (try with_reducible rfl)
          simp only [Act.put, List.getElem_toArray, List.getElem_cons_succ, List.getElem_cons_zero, List.setIfInBounds_toArray, List.set_cons_succ, List.set_cons_zero]
          refine wpAnyL_take (i := 34) (f0 := 37) (v := ?_) rfl (by decide +kernel) (by decide +kernel) (by decide +kernel) (by decide +kernel) (by decide +kernel) (fun _ _ _ h => h) (Or.inl ⟨by rfl, ?_⟩) hS19 ?_
          rotate_left
          · intro wS hS; go_simp; (try with_reducible rfl)
          simp only [Act.put, List.getElem_toArray, List.getElem_cons_succ, List.getElem_cons_zero, List.setIfInBounds_toArray, List.set_cons_succ, List.set_cons_zero]
          refine wpAnyL_done (by decide +kernel) ?_ _
          refine NoPanic.normal ?_
          go_upto_region 9 with (fail)
          try clear hc1
          try clear hc2
          refine wp_region_noPanic ?_
          refine wp_region_L (CX w.heap.size A n c l bX bY AX AY m cX cY Y) 39 hmx ?_
          have hdr := (Below.refl w19.heap.size w19).drew
          have hS20 : (CX w.heap.size A n c l bX bY AX AY m cX cY Y) w19.drew := hS19.below hdr
          have hb20 := bnext hb19 hdr
          clear hdr hS19 hb19
          generalize w19.drew = w20 at *
          refine wpAnyL_take (i := 0) (f0 := 41) (v := ?_) rfl (by decide +kernel) (by decide +kernel) (by decide +kernel) (by decide +kernel) (by decide +kernel) (fun _ _ _ h => h) (Or.inl ⟨by rfl, ?_⟩) hS20 ?_
          rotate_left
          · intro wS hS; go_simp; (try with_reducible rfl)
          simp only [Act.put, List.getElem_toArray, List.getElem_cons_zero, List.setIfInBounds_toArray, List.set_cons_succ, List.set_cons_zero]
          refine wpAnyL_take (i := 1) (f0 := 41) (v := ?_) rfl (by decide +kernel) (by decide +kernel) (by decide +kernel) (by decide +kernel) (by decide +kernel) (fun _ _ _ h => h) (Or.inl ⟨by rfl, ?_⟩) hS20 ?_
          rotate_left
          · intro wS hS; go_simp; (try with_reducible rfl)
          simp only [Act.put, List.getElem_toArray, List.getElem_cons_succ, List.getElem_cons_zero, List.setIfInBounds_toArray, List.set_cons_succ, List.set_cons_zero]
          refine wpAnyL_take (i := 2) (f0 := 41) (v := ?_) rfl (by decide +kernel) (by decide +kernel) (by decide +kernel) (by decide +kernel) (by decide +kernel) (fun _ _ _ h => h) (Or.inl ⟨by rfl, ?_⟩) hS20 ?_
          rotate_left
          · intro wS hS; go_simp; (try with_reducible rfl)
          simp only [Act.put, List.getElem_toArray, List.getElem_cons_succ, List.getElem_cons_zero, List.setIfInBounds_toArray, List.set_cons_succ, List.set_cons_zero]
          refine wpAnyL_take (i := 3) (f0 := 41) (v := ?_) rfl (by decide +kernel) (by decide +kernel) (by decide +kernel) (by decide +kernel) (by decide +kernel) (fun _ _ _ h => h) (Or.inl ⟨by rfl, ?_⟩) hS20 ?_
          rotate_left
          · intro wS hS; go_simp; (try with_reducible rfl)
          simp only [Act.put, List.getElem_toArray, List.getElem_cons_succ, List.getElem_cons_zero, List.setIfInBounds_toArray, List.set_cons_succ, List.set_cons_zero]
          refine wpAnyL_take (i := 4) (f0 := 41) (v := ?_) rfl (by decide +kernel) (by decide +kernel) (by decide +kernel) (by decide +kernel) (by decide +kernel) (fun _ _ _ h => h) (Or.inl ⟨by rfl, ?_⟩) hS20 ?_
          rotate_left
          · intro wS hS; go_simp; (try with_reducible rfl)
          simp only [Act.put, List.getElem_toArray, List.getElem_cons_succ, List.getElem_cons_zero, List.setIfInBounds_toArray, List.set_cons_succ, List.set_cons_zero]
          refine wpAnyL_take (i := 5) (f0 := 41) (v := ?_) rfl (by decide +kernel) (by decide +kernel) (by decide +kernel) (by decide +kernel) (by decide +kernel) (fun _ _ _ h => h) (Or.inl ⟨by rfl, ?_⟩) hS20 ?_
          rotate_left
          · intro wS hS; go_simp; (try with_reducible rfl)
          simp only [Act.put, List.getElem_toArray, List.getElem_cons_succ, List.getElem_cons_zero, List.setIfInBounds_toArray, List.set_cons_succ, List.set_cons_zero]
          refine wpAnyL_take (i := 6) (f0 := 41) (v := ?_) rfl (by decide +kernel) (by decide +kernel) (by decide +kernel) (by decide +kernel) (by decide +kernel) (fun _ _ _ h => h) (Or.inl ⟨by rfl, ?_⟩) hS20 ?_
          rotate_left
          · intro wS hS; go_simp; (try with_reducible rfl)
          simp only [Act.put, List.getElem_toArray, List.getElem_cons_succ, List.getElem_cons_zero, List.setIfInBounds_toArray, List.set_cons_succ, List.set_cons_zero]
          refine wpAnyL_take (i := 7) (f0 := 41) (v := ?_) rfl (by decide +kernel) (by decide +kernel) (by decide +kernel) (by decide +kernel) (by decide +kernel) (fun _ _ _ h => h) (Or.inl ⟨by rfl, ?_⟩) hS20 ?_
          rotate_left
          · intro wS hS; go_simp; (try with_reducible rfl)
          simp only [Act.put, List.getElem_toArray, List.getElem_cons_succ, List.getElem_cons_zero, List.setIfInBounds_toArray, List.set_cons_succ, List.set_cons_zero]
          refine wpAnyL_take (i := 8) (f0 := 41) (v := ?_) rfl (by decide +kernel) (by decide +kernel) (by decide +kernel) (by decide +kernel) (by decide +kernel) (fun _ _ _ h => h) (Or.inl ⟨by rfl, ?_⟩) hS20 ?_
          rotate_left
          · intro wS hS; go_simp; (try with_reducible rfl)
          simp only [Act.put, List.getElem_toArray, List.getElem_cons_succ, List.getElem_cons_zero, List.setIfInBounds_toArray, List.set_cons_succ, List.set_cons_zero]
          refine wpAnyL_take (i := 9) (f0 := 41) (v := ?_) rfl (by decide +kernel) (by decide +kernel) (by decide +kernel) (by decide +kernel) (by decide +kernel) (fun _ _ _ h => h) (Or.inl ⟨by rfl, ?_⟩) hS20 ?_
          rotate_left
          · intro wS hS; go_simp; (try with_reducible rfl)
          simp only [Act.put, List.getElem_toArray, List.getElem_cons_succ, List.getElem_cons_zero, List.setIfInBounds_toArray, List.set_cons_succ, List.set_cons_zero]
          refine wpAnyL_take (i := 10) (f0 := 41) (v := ?_) rfl (by decide +kernel) (by decide +kernel) (by decide +kernel) (by decide +kernel) (by decide +kernel) (fun _ _ _ h => h) (Or.inl ⟨by rfl, ?_⟩) hS20 ?_
          rotate_left
          · intro wS hS; go_simp; (try with_reducible rfl)
          simp only [Act.put, List.getElem_toArray, List.getElem_cons_succ, List.getElem_cons_zero, List.setIfInBounds_toArray, List.set_cons_succ, List.set_cons_zero]
          refine wpAnyL_take (i := 11) (f0 := 41) (v := ?_) rfl (by decide +kernel) (by decide +kernel) (by decide +kernel) (by decide +kernel) (by decide +kernel) (fun _ _ _ h => h) (Or.inl ⟨by rfl, ?_⟩) hS20 ?_
          rotate_left
          · intro wS hS; go_simp; (try with_reducible rfl)
          simp only [Act.put, List.getElem_toArray, List.getElem_cons_succ, List.getElem_cons_zero, List.setIfInBounds_toArray, List.set_cons_succ, List.set_cons_zero]
          refine wpAnyL_take (i := 12) (f0 := 41) (v := ?_) rfl (by decide +kernel) (by decide +kernel) (by decide +kernel) (by decide +kernel) (by decide +kernel) (fun _ _ _ h => h) (Or.inl ⟨by rfl, ?_⟩) hS20 ?_
          rotate_left
          · intro wS hS; go_simp; (try with_reducible rfl)
          simp only [Act.put, List.getElem_toArray, List.getElem_cons_succ, List.getElem_cons_zero, List.setIfInBounds_toArray, List.set_cons_succ, List.set_cons_zero]
          refine wpAnyL_take (i := 13) (f0 := 41) (v := ?_) rfl (by decide +kernel) (by decide +kernel) (by decide +kernel) (by decide +kernel) (by decide +kernel) (fun _ _ _ h => h) (Or.inl ⟨by rfl, ?_⟩) hS20 ?_
          rotate_left
          · intro wS hS; go_simp; (try with_reducible rfl)
          simp only [Act.put, List.getElem_toArray, List.getElem_cons_succ, List.getElem_cons_zero, List.setIfInBounds_toArray, List.set_cons_succ, List.set_cons_zero]
          refine wpAnyL_take (i := 14) (f0 := 41) (v := ?_) rfl (by decide +kernel) (by decide +kernel) (by decide +kernel) (by decide +kernel) (by decide +kernel) (fun _ _ _ h => h) (Or.inl ⟨by rfl, ?_⟩) hS20 ?_
          rotate_left
          · intro wS hS; go_simp; (try with_reducible rfl)
          simp only [Act.put, List.getElem_toArray, List.getElem_cons_succ, List.getElem_cons_zero, List.setIfInBounds_toArray, List.set_cons_succ, List.set_cons_zero]
          refine wpAnyL_take (i := 15) (f0 := 41) (v := ?_) rfl (by decide +kernel) (by decide +kernel) (by decide +kernel) (by decide +kernel) (by decide +kernel) (fun _ _ _ h => h) (Or.inl ⟨by rfl, ?_⟩) hS20 ?_
          rotate_left
          · intro wS hS; go_simp; (try with_reducible rfl)
          simp only [Act.put, List.getElem_toArray, List.getElem_cons_succ, List.getElem_cons_zero, List.setIfInBounds_toArray, List.set_cons_succ, List.set_cons_zero]
          refine wpAnyL_take (i := 16) (f0 := 41) (v := ?_) rfl (by decide +kernel) (by decide +kernel) (by decide +kernel) (by decide +kernel) (by decide +kernel) (fun _ _ _ h => h) (Or.inl ⟨by rfl, ?_⟩) hS20 ?_
          rotate_left
          · intro wS hS; go_simp; (try with_reducible rfl)
          simp only [Act.put, List.getElem_toArray, List.getElem_cons_succ, List.getElem_cons_zero, List.setIfInBounds_toArray, List.set_cons_succ, List.set_cons_zero]
          refine wpAnyL_take (i := 17) (f0 := 41) (v := ?_) rfl (by decide +kernel) (by decide +kernel) (by decide +kernel) (by decide +kernel) (by decide +kernel) (fun _ _ _ h => h) (Or.inl ⟨by rfl, ?_⟩) hS20 ?_
          rotate_left
          · intro wS hS; go_simp; (try with_reducible rfl)
          simp only [Act.put, List.getElem_toArray, List.getElem_cons_succ, List.getElem_cons_zero, List.setIfInBounds_toArray, List.set_cons_succ, List.set_cons_zero]
          refine wpAnyL_take (i := 18) (f0 := 41) (v := ?_) rfl (by decide +kernel) (by decide +kernel) (by decide +kernel) (by decide +kernel) (by decide +kernel) (fun _ _ _ h => h) (Or.inl ⟨by rfl, ?_⟩) hS20 ?_
          rotate_left
          · intro wS hS; go_simp; (try with_reducible rfl)
          simp only [Act.put, List.getElem_toArray, List.getElem_cons_succ, List.getElem_cons_zero, List.setIfInBounds_toArray, List.set_cons_succ, List.set_cons_zero]
          refine wpAnyL_take (i := 19) (f0 := 41) (v := ?_) rfl (by decide +kernel) (by decide +kernel) (by decide +kernel) (by decide +kernel) (by decide +kernel) (fun _ _ _ h => h) (Or.inl ⟨by rfl, ?_⟩) hS20 ?_
          rotate_left
          · intro wS hS; go_simp; (try with_reducible rfl)
          simp only [Act.put, List.getElem_toArray, List.getElem_cons_succ, List.getElem_cons_zero, List.setIfInBounds_toArray, List.set_cons_succ, List.set_cons_zero]
          refine wpAnyL_take (i := 20) (f0 := 41) (v := ?_) rfl (by decide +kernel) (by decide +kernel) (by decide +kernel) (by decide +kernel) (by decide +kernel) (fun _ _ _ h => h) (Or.inl ⟨by rfl, ?_⟩) hS20 ?_
          rotate_left
          · intro wS hS; have hc1 := iCells0 hS.rx; go_simp; (try with_reducible rfl)
          simp only [Act.put, List.getElem_toArray, List.getElem_cons_succ, List.getElem_cons_zero, List.setIfInBounds_toArray, List.set_cons_succ, List.set_cons_zero]
          refine wpAnyL_take (i := 21) (f0 := 41) (v := ?_) rfl (by decide +kernel) (by decide +kernel) (by decide +kernel) (by decide +kernel) (by decide +kernel) (fun _ _ _ h => h) (Or.inl ⟨by rfl, ?_⟩) hS20 ?_
          rotate_left
          · intro wS hS; have hc1 := iCells0 hS.ry; go_simp; (try with_reducible rfl)
          simp only [Act.put, List.getElem_toArray, List.getElem_cons_succ, List.getElem_cons_zero, List.setIfInBounds_toArray, List.set_cons_succ, List.set_cons_zero]
          refine wpAnyL_one (i := 22) (by decide +kernel) (by rfl) (fun K hK => ?_)
          rw [if_pos (by rfl)]
          go_simp
          refine (same18_of Y Y AX AY m cX m cY HK.out HK.out hmz hmz w20 hS20.ix hS20.iy true (by simp)).mono ?_
          rintro e w21 ⟨rfl, hx21⟩
          have hS21 : (CX w.heap.size A n c l bX bY AX AY m cX cY Y) w21 := hS20.below hx21
          have hb21 := bnext hb20 hx21
          refine hK.out _ _ (Or.inr hS21) ?_
          clear hK K hS20 hb20 hx21
          try simp only [Act.put, List.getElem_toArray, List.getElem_cons_succ, List.getElem_cons_zero, List.setIfInBounds_toArray, List.set_cons_succ, List.set_cons_zero]
          refine wpAnyL_take (i := 23) (f0 := 41) (v := ?_) rfl (by decide +kernel) (by decide +kernel) (by decide +kernel) (by decide +kernel) (by decide +kernel) (fun _ _ _ h => h) (Or.inl ⟨by rfl, ?_⟩) hS21 ?_
          rotate_left
          · intro wS hS; go_simp; (try with_reducible rfl)
          simp only [Act.put, List.getElem_toArray, List.getElem_cons_succ, List.getElem_cons_zero, List.setIfInBounds_toArray, List.set_cons_succ, List.set_cons_zero]
          refine wpAnyL_take (i := 24) (f0 := 41) (v := ?_) rfl (by decide +kernel) (by decide +kernel) (by decide +kernel) (by decide +kernel) (by decide +kernel) (fun _ _ _ h => h) (Or.inl ⟨by rfl, ?_⟩) hS21 ?_
          rotate_left
          · intro wS hS; go_simp; (try with_reducible rfl)
          simp only [Act.put, List.getElem_toArray, List.getElem_cons_succ, List.getElem_cons_zero, List.setIfInBounds_toArray, List.set_cons_succ, List.set_cons_zero]
          refine wpAnyL_take (i := 25) (f0 := 41) (v := ?_) rfl (by decide +kernel) (by decide +kernel) (by decide +kernel) (by decide +kernel) (by decide +kernel) (fun _ _ _ h => h) (Or.inl ⟨by rfl, ?_⟩) hS21 ?_
          rotate_left
          · intro wS hS; have hc1 := iCells0 hS.row; go_simp; (try with_reducible rfl)
          simp only [Act.put, List.getElem_toArray, List.getElem_cons_succ, List.getElem_cons_zero, List.setIfInBounds_toArray, List.set_cons_succ, List.set_cons_zero]
          refine wpAnyL_take (i := 27) (f0 := 41) (v := ?_) rfl (by decide +kernel) (by decide +kernel) (by decide +kernel) (by decide +kernel) (by decide +kernel) (fun _ _ _ h => h) (Or.inl ⟨by rfl, ?_⟩) hS21 ?_
          rotate_left
          · intro wS hS; have hc1 := iCells0 hS.row; go_simp; (try with_reducible rfl)
          simp only [Act.put, List.getElem_toArray, List.getElem_cons_succ, List.getElem_cons_zero, List.setIfInBounds_toArray, List.set_cons_succ, List.set_cons_zero]
          refine wpAnyL_one (i := 26) (by decide +kernel) (by rfl) (fun K hK => ?_)
          rw [if_pos (by rfl)]
          go_simp
          refine (Code.digest_of l A n c HL.out HW.out (by omega) w21 hS21.env hS21.its (few_up ZL.out (by decide)) D HD.out).mono ?_
          rintro e w22 ⟨rfl, hx22⟩
          have hS22 : (CX w.heap.size A n c l bX bY AX AY m cX cY Y) w22 := hS21.below hx22
          have hb22 := bnext hb21 hx22
          refine hK.out _ _ (Or.inr hS22) ?_
          clear hK K hS21 hb21 hx22
          try simp only [Act.put, List.getElem_toArray, List.getElem_cons_succ, List.getElem_cons_zero, List.setIfInBounds_toArray, List.set_cons_succ, List.set_cons_zero]
          refine wpAnyL_one (i := 28) (by decide +kernel) (by rfl) (fun K hK => ?_)
          rw [if_pos (by rfl)]
          go_simp
          refine (rdigest_of l A n c HL.out HW.out (by omega) w22 hS22.its (few_up ZL.out (by decide)) HJS.out D HD.out).mono ?_
          rintro e w23 ⟨rfl, hx23⟩
          have hS23 : (CX w.heap.size A n c l bX bY AX AY m cX cY Y) w23 := hS22.below hx23
          have hb23 := bnext hb22 hx23
          refine hK.out _ _ (Or.inr hS23) ?_
          clear hK K hS22 hb22 hx23
          try simp only [Act.put, List.getElem_toArray, List.getElem_cons_succ, List.getElem_cons_zero, List.setIfInBounds_toArray, List.set_cons_succ, List.set_cons_zero]
          refine wpAnyL_take (i := 29) (f0 := 41) (v := ?_) rfl (by decide +kernel) (by decide +kernel) (by decide +kernel) (by decide +kernel) (by decide +kernel) (fun _ _ _ h => h) (Or.inl ⟨by rfl, ?_⟩) hS23 ?_
          rotate_left
          · intro wS hS; go_simp; (try with_reducible rfl)
          simp only [Act.put, List.getElem_toArray, List.getElem_cons_succ, List.getElem_cons_zero, List.setIfInBounds_toArray, List.set_cons_succ, List.set_cons_zero]
          refine wpAnyL_take (i := 30) (f0 := 41) (v := ?_) rfl (by decide +kernel) (by decide +kernel) (by decide +kernel) (by decide +kernel) (by decide +kernel) (fun _ _ _ h => h) (Or.inl ⟨by rfl, ?_⟩) hS23 ?_
          rotate_left
          · intro wS hS; go_simp; (try with_reducible rfl)
          simp only [Act.put, List.getElem_toArray, List.getElem_cons_succ, List.getElem_cons_zero, List.setIfInBounds_toArray, List.set_cons_succ, List.set_cons_zero]
          refine wpAnyL_take (i := 31) (f0 := 41) (v := ?_) rfl (by decide +kernel) (by decide +kernel) (by decide +kernel) (by decide +kernel) (by decide +kernel) (fun _ _ _ h => h) (Or.inl ⟨by rfl, ?_⟩) hS23 ?_
          rotate_left
          · intro wS hS; go_simp; (try with_reducible rfl)
          simp only [Act.put, List.getElem_toArray, List.getElem_cons_succ, List.getElem_cons_zero, List.setIfInBounds_toArray, List.set_cons_succ, List.set_cons_zero]
          refine wpAnyL_take (i := 32) (f0 := 41) (v := ?_) rfl (by decide +kernel) (by decide +kernel) (by decide +kernel) (by decide +kernel) (by decide +kernel) (fun _ _ _ h => h) (Or.inl ⟨by rfl, ?_⟩) hS23 ?_
          rotate_left
          · intro wS hS; have hc1 := iCells0 hS.row; go_simp; (try with_reducible rfl)
          simp only [Act.put, List.getElem_toArray, List.getElem_cons_succ, List.getElem_cons_zero, List.setIfInBounds_toArray, List.set_cons_succ, List.set_cons_zero]
          refine wpAnyL_take (i := 34) (f0 := 41) (v := ?_) rfl (by decide +kernel) (by decide +kernel) (by decide +kernel) (by decide +kernel) (by decide +kernel) (fun _ _ _ h => h) (Or.inl ⟨by rfl, ?_⟩) hS23 ?_
          rotate_left
          · intro wS hS; have hc1 := iCells0 hS.row; go_simp; (try with_reducible rfl)
          simp only [Act.put, List.getElem_toArray, List.getElem_cons_succ, List.getElem_cons_zero, List.setIfInBounds_toArray, List.set_cons_succ, List.set_cons_zero]
          refine wpAnyL_one (i := 33) (by decide +kernel) (by rfl) (fun K hK => ?_)
          rw [if_pos (by rfl)]
          go_simp
          refine (Code.leaves_of l A n c HL.out HW.out (by omega) w23 hS23.env hS23.its (few_up ZL.out (by decide)) LV HLV.out).mono ?_
          rintro e w24 ⟨⟨AV1, cV1, rfl, hcV1, hsV1⟩, hx24⟩
          rw [HP.out] at hcV1 ⊢
          have hS24 : (CX w.heap.size A n c l bX bY AX AY m cX cY Y) w24 := hS23.below hx24
          have hb24 := bnext hb23 hx24
          refine hK.out _ _ (Or.inr hS24) ?_
          clear hK K hS23 hb23 hx24
          try simp only [Act.put, List.getElem_toArray, List.getElem_cons_succ, List.getElem_cons_zero, List.setIfInBounds_toArray, List.set_cons_succ, List.set_cons_zero]
          refine wpAnyL_one (i := 35) (by decide +kernel) (by rfl) (fun K hK => ?_)
          rw [if_pos (by rfl)]
          go_simp
          refine (rleaves_of l A n c HL.out HW.out (by omega) w24 hS24.its (few_up ZL.out (by decide)) LV HLV.out p HP.out).mono ?_
          rintro e w25 ⟨⟨AV2, cV2, rfl, hcV2, hsV2⟩, hx25⟩
          have hS25 : (CX w.heap.size A n c l bX bY AX AY m cX cY Y) w25 := hS24.below hx25
          have hb25 := bnext hb24 hx25
          have hsV3 := keepS hsV1 hx25
          refine hK.out _ _ (Or.inr hS25) ?_
          clear hK K hS24 hb24 hx25
          try simp only [Act.put, List.getElem_toArray, List.getElem_cons_succ, List.getElem_cons_zero, List.setIfInBounds_toArray, List.set_cons_succ, List.set_cons_zero]
          refine wpAnyL_one (i := 36) (by decide +kernel) (by rfl) (fun K hK => ?_)
          rw [if_pos (by rfl)]
          go_simp
          refine (same_of AV1 AV2 cV1 cV2 LV LV p p HP.out HP.out true (same_refl LV) w25 hpz hpz hsV3 hsV2).mono ?_
          rintro e w26 ⟨rfl, hx26⟩
          have hS26 : (CX w.heap.size A n c l bX bY AX AY m cX cY Y) w26 := hS25.below hx26
          have hb26 := bnext hb25 hx26
          refine hK.out _ _ (Or.inr hS26) ?_
          clear hK K hS25 hb25 hx26
          try simp only [Act.put, List.getElem_toArray, List.getElem_cons_succ, List.getElem_cons_zero, List.setIfInBounds_toArray, List.set_cons_succ, List.set_cons_zero]
          refine wpAnyL_take (i := 37) (f0 := 41) (v := ?_) rfl (by decide +kernel) (by decide +kernel) (by decide +kernel) (by decide +kernel) (by decide +kernel) (fun _ _ _ h => h) (Or.inl ⟨by rfl, ?_⟩) hS26 ?_
          rotate_left
          · intro wS hS; go_simp; (try with_reducible rfl)
          simp only [Act.put, List.getElem_toArray, List.getElem_cons_succ, List.getElem_cons_zero, List.setIfInBounds_toArray, List.set_cons_succ, List.set_cons_zero]
          refine wpAnyL_take (i := 38) (f0 := 41) (v := ?_) rfl (by decide +kernel) (by decide +kernel) (by decide +kernel) (by decide +kernel) (by decide +kernel) (fun _ _ _ h => h) (Or.inl ⟨by rfl, ?_⟩) hS26 ?_
          rotate_left
          · intro wS hS; go_simp; (try with_reducible rfl)
          simp only [Act.put, List.getElem_toArray, List.getElem_cons_succ, List.getElem_cons_zero, List.setIfInBounds_toArray, List.set_cons_succ, List.set_cons_zero]
          refine wpAnyL_done (by decide +kernel) ?_ _
          refine NoPanic.normal ?_
          go_wp2
          go_ret
          exact ⟨rfl, hb26⟩
end Go.Proofs.YtpldhempbdionaaGreatDoor
/- The world's shape handed to a law; a number of the library's holds some int. No conditions. -/
namespace Go.Proofs.YtpldhempbdionaaGreatDoor
open Go Go.RowKit
theorem handed_shaped {H : Type} {enc : TypeId × Value → H} {a : Assume} {C : Checked} {os : Os} {f : FuncId} {fn : Func} {s : ChangeSpec} {conds : List PathCond} {apart fresh handsOn again : Bool} {X : World → Array Value → Prop}
    (hX : ∀ (w w' : World) (args : Array Value), w.heap = w'.heap → X w args → X w' args)
    (own : ownKnob C.prog.godebug = none) (started : os.Started) (noInit : C.prog.inits.idxOf? f = none) (hfn : C.prog.funcs[f]? = some fn)
    (witness : ∃ (w : World) (tape : Tape) (i : Input), w.os = os ∧ (w.forCall tape i).Shaped C.prog ∧ i.vars = [] ∧ Input.okWide C.prog (w.forCall tape i) .any w.heap.size f i ∧
      ((s.pre enc C.prog fn conds apart (w.forCall tape i).memory i.args ∧ X (w.forCall tape i).memory i.args) ∧ sizedMet enc C.prog fn (OpenSpec.ofChange s) apart (w.forCall tape i).memory i.args) ∧ a.holds C.prog (lone (Frame.enter C.prog f i.args .normal) [] (w.forCall tape i)))
    (contract : ∀ (W : World) (base : Nat) (args : Array Value) (ds gs : List (DataW H)) (before : List MemPlace),
      (∀ (j : Nat) t v, fn.params[j]? = some t → args[j]? = some v → Value.okWide C.prog W .any base t v) →
      DataW.Whole enc C.prog fn.params.toList s.vars apart W args.toList ds gs before →
      conds.all (PathCond.test C.prog ⟨fn.params.toList, ds, s.plain.varTypes C.prog, gs⟩) = true →
      (DataW.weightsEach C.prog (fn.params.toList ++ s.plain.varTypes C.prog) (ds ++ gs)).all (· ≤ reachBytes) = true → X W args → W.ShapedOpen C.prog →
      a.holds C.prog (lone (Frame.enter C.prog f args .normal) [] W) →
      Calls C.prog f args W fun e W' => ∃ v, e = .returned v ∧ s.post enc C.prog fn apart fresh handsOn again W args v W') :
    ReturnsInHanded a C os f .any (fun w args => (s.pre enc C.prog fn conds apart w args ∧ X w args) ∧ sizedMet enc C.prog fn (OpenSpec.ofChange s) apart w args) (s.post enc C.prog fn apart fresh handsOn again) := by
  refine returnsInHanded_of_calls own started noInit witness ?_
  intro w tape i _ hsh _ hok hpre hholds
  obtain ⟨_, _, _, fn', hfn', _, _, _, _, hval⟩ := hok
  obtain rfl : fn' = fn := Option.some.inj (hfn'.symm.trans hfn)
  obtain ⟨⟨⟨ds, gs, before, hw, hc⟩, hx⟩, hz⟩ := hpre
  have hw' := DataW.Whole.of_heap (w' := w.forCall tape i) (by rfl) hw
  refine (contract (w.forCall tape i) w.heap.size i.args ds gs before hval hw' hc (hz.weights hw) (hX _ _ _ (by rfl) hx) hsh hholds).mono fun e W' ⟨v, he, hp⟩ => ?_
  subst he
  exact ChangeSpec.post_blind hp
theorem maxI_of {W : World} (h : W.ShapedOpen Tryz.prog) : MaxI W :=
  cell_of_shapedOpen_int (t := 3) (zero := #[.int .i64 0]) h (by decide +kernel) (by kernel_rfl) rfl (by kernel_rfl) (by kernel_rfl) Tryz.underlying3
end Go.Proofs.YtpldhempbdionaaGreatDoor
/- The last step of each law's row: the result is true, and each argument reads as it did. No conditions. -/
namespace Go.Proofs.YtpldhempbdionaaGreatDoor
open Go Go.RowKit Go.ChangeShapes Go.WideShapes Go.ChangeAt
section
variable {H : Type} {enc : TypeId × Value → H} {P : Program}
theorem trodAll_later (hl : laidOutB P = true) {W W' : World} (hb : Below W.heap.size W W') : ∀ {ts : List TypeId} {vs : List Value} {ds : List (DataW H)} {ps : List MemPlace},
    (∀ t ∈ ts, P.readableRec t = true ∧ t < P.types.size) → (∀ x ∈ ps, x.block < W.heap.size) → DataW.TrodAll enc P W 0 (fun _ => true) true ts vs ds ps → DataW.TrodAll enc P W' 0 (fun b => decide (b < W.heap.size)) true ts vs ds ps
  | [], vs, ds, ps, _, _, h => by
    obtain ⟨rfl, rfl, rfl⟩ := trodAll_nil h
    exact trodAll_mk0
  | t :: ts, vs, ds, ps, hts, hlt, h => by
    obtain ⟨v, vs', d, ds', p, q, rfl, rfl, rfl, hv, hr⟩ := trodAll_cons h
    obtain ⟨h1, h2⟩ := hts t (List.mem_cons_self ..)
    exact trodAll_cons_mk (Below.trod hl h1 h2 hv hb fun x hx => hlt x (List.mem_append_left _ hx))
      (trodAll_later hl hb (fun t' ht' => hts t' (List.mem_cons_of_mem _ ht')) (fun x hx => hlt x (List.mem_append_right _ hx)) hr)
theorem law_post (hl : laidOutB P = true) {f : Func} {s : ChangeSpec} (hv : s.vars = []) {tb : TypeId} (hrt : f.resultTypes = #[tb]) (htb : P.underlying tb = some .bool)
    (hts : (f.params.toList.all fun t => P.readableRec t && decide (t < P.types.size)) = true) {W W' : World} {args : Array Value} {ds gs : List (DataW H)} {before : List MemPlace}
    (hW : DataW.Whole enc P f.params.toList s.vars false W args.toList ds gs before) (hfn : s.fn H (ds ++ gs) = { results := [.lit (.bool true)], args := ds }) (hb : Below W.heap.size W W') :
    s.post enc P f false true false false W args (.bool true) W' := by
  have hlt : ∀ p ∈ before, p.block < W.heap.size := fun p hp => hW.lt p hp
  have hW' := hW
  obtain ⟨p, q, hA, hV, rfl, _, _⟩ := hW
  refine ⟨ds, gs, p ++ q, [], p, [], hW', ?_, ?_, ?_, hb.frame _, fun h => by cases h⟩
  · rw [hfn, hrt]
    exact trodAll_mk1 (shut_bool htb true)
  · rw [hfn]
    exact trodAll_later hl hb (fun t ht => by have := List.all_eq_true.1 hts t ht; simpa using this) (fun x hx => hlt x (List.mem_append_left _ hx)) hA
  · rw [hfn, hv]
    exact rfl
end
end Go.Proofs.YtpldhempbdionaaGreatDoor
/- The arguments of the laws, opened: strings, small numbers, slices of strings. No conditions. -/
namespace Go.Proofs.YtpldhempbdionaaGreatDoor
open Go Go.RowKit Go.ChangeShapes Go.WideShapes Go.ChangeAt Go.WideMaps Go.WideElems
open Go.ChangeMaps (open_string)
theorem laid_mem {P : Program} {w : World} {n : String} {d : DataW Unit} : ∀ {l : List (String × DataW Unit)} {ps : List MemPlace}, (n, d) ∈ l → DataW.LaidVars P w l ps →
    ∃ g t cs fuel p, P.globalNamed n = some g ∧ (P.globals[g]?).map (·.type) = some t ∧ w.var? P n = some cs ∧ DataW.trod (fun _ => ()) P w 0 (fun _ => true) false fuel t cs.toList = some (d, p)
  | [], _, hm, _ => by cases hm
  | x :: r, ps, hm, h => by
    obtain ⟨g, t, cs, fuel, p, q, h1, h2, h3, h4, h5, _⟩ := h
    rcases List.mem_cons.1 hm with hx | hx
    · subst hx
      exact ⟨g, t, cs, fuel, p, h1, h2, h3, h4⟩
    · exact laid_mem hx h5
theorem env_of_laid {W : World} {l : List (String × DataW Unit)} (hp : (l.all fun x => x.2.handleName?.isNone) = true) (hm : ("internal/strconv.uint64pow10", Lib.tabData .u64 Lib.pow10Tab) ∈ l) (h : laidMetH Tryz.prog l W) : Env W := by
  rw [MakeChecks.laidMetH_plain _ _ _ hp] at h
  obtain ⟨ps, hl, _⟩ := h
  obtain ⟨g, t, cs, fuel, p, hg, ht, hvar, hd⟩ := laid_mem hm hl
  obtain rfl := Option.some.inj (gPow.symm.trans hg)
  obtain rfl := Option.some.inj ((show (Tryz.prog.globals[3]?).map (·.type) = some 170 by kernel_rfl).symm.trans ht)
  unfold Env Lib.TabIs
  rw [hvar, ← Lib.cells_of_tab Tryz.underlying170 Tryz.underlying58 (by kernel_rfl) (by kernel_rfl) hd]
section
variable {H : Type} {enc : TypeId × Value → H}
theorem addr_of_cell {w : World} {a : Addr} {v : Value} (h : w.cell? a = some v) : a = ⟨a.block, a.off, none⟩ ∧ a.block < w.heap.size := by
  refine ⟨?_, block_lt_of_cell h⟩
  obtain ⟨b, off, sp⟩ := a
  cases sp with
  | none => rfl
  | some k =>
    exfalso
    unfold World.cell? at h
    simp at h
    split at h <;> simp at h
theorem add_plain (b off j : Nat) : (⟨b, off, none⟩ : Addr).add j = ⟨b, off + j, none⟩ := by
  unfold Addr.add
  by_cases h : j = 0
  · rw [if_pos h, h, Nat.add_zero]
  · rw [if_neg h]
end
end Go.Proofs.YtpldhempbdionaaGreatDoor
/- A seal that came in, opened. No conditions. -/
namespace Go.Proofs.YtpldhempbdionaaGreatDoor
open Go Go.RowKit Go.ChangeShapes Go.WideShapes Go.ChangeAt Go.WideMaps Go.WideElems Go.Joins
variable {H : Type} {enc : TypeId × Value → H}
theorem cellsStr : Tryz.prog.cellsOf 9 = 1 := by kernel_rfl
end Go.Proofs.YtpldhempbdionaaGreatDoor
/- Codes that came in, opened. No conditions. -/
namespace Go.Proofs.YtpldhempbdionaaGreatDoor
open Go Go.RowKit Go.ChangeShapes Go.WideShapes Go.ChangeAt Go.WideMaps Go.WideElems Go.Joins Go.Deep
variable {H : Type} {enc : TypeId × Value → H}
theorem cIntC : Tryz.prog.cellsOf 3 = 1 := by kernel_rfl
theorem cBoolC : Tryz.prog.cellsOf 4 = 1 := by kernel_rfl
theorem cItem : Tryz.prog.cellsOf 31 = 7 := by kernel_rfl
theorem cItems : Tryz.prog.cellsOf 22 = 1 := by kernel_rfl
theorem cCode : Tryz.prog.cellsOf 24 = 1 := by kernel_rfl
set_option maxRecDepth 100000 in
/-- The cells of an item that came in. -/
theorem trod_item {W : World} {k : Nat} {cs : List Value} {x : DataW H × List MemPlace} (h : DataW.trod enc Tryz.prog W 0 (fun _ => true) true k 31 cs = some x) :
    ∃ v : Dg.It, cs = (itV v).toList ∧ ItW v := by
  obtain ⟨xs, n, _, _, hlen, hxl, hf⟩ := DataW.trod_struct Tryz.underlying31 h
  rw [cItem] at hlen
  match cs, hlen with
  | [c0, c1, c2, c3, c4, c5, c6], _ =>
    match xs, hxl with
    | [y0, y1, y2, y3, y4, y5, y6], _ =>
      have f0 : DataW.trod enc Tryz.prog W 0 (fun _ => true) true n 3 [c0] = some y0 := by simpa [cIntC] using hf 0 _ rfl
      have f1 : DataW.trod enc Tryz.prog W 0 (fun _ => true) true n 9 [c1] = some y1 := by simpa [cellsStr] using hf 1 _ rfl
      have f2 : DataW.trod enc Tryz.prog W 0 (fun _ => true) true n 9 [c2] = some y2 := by simpa [cellsStr] using hf 2 _ rfl
      have f3 : DataW.trod enc Tryz.prog W 0 (fun _ => true) true n 9 [c3] = some y3 := by simpa [cellsStr] using hf 3 _ rfl
      have f4 : DataW.trod enc Tryz.prog W 0 (fun _ => true) true n 9 [c4] = some y4 := by simpa [cellsStr] using hf 4 _ rfl
      have f5 : DataW.trod enc Tryz.prog W 0 (fun _ => true) true n 9 [c5] = some y5 := by simpa [cellsStr] using hf 5 _ rfl
      have f6 : DataW.trod enc Tryz.prog W 0 (fun _ => true) true n 4 [c6] = some y6 := by simpa [cBoolC] using hf 6 _ rfl
      obtain ⟨m, e0, _, w0⟩ := DataW.trod_int Tryz.underlying3 f0
      obtain ⟨b1, e1, _, w1⟩ := DataW.trod_string Tryz.underlying9 f1
      obtain ⟨b2, e2, _, w2⟩ := DataW.trod_string Tryz.underlying9 f2
      obtain ⟨b3, e3, _, w3⟩ := DataW.trod_string Tryz.underlying9 f3
      obtain ⟨b4, e4, _, w4⟩ := DataW.trod_string Tryz.underlying9 f4
      obtain ⟨b5, e5, _, w5⟩ := DataW.trod_string Tryz.underlying9 f5
      obtain ⟨y, e6, _⟩ := DataW.trod_bool Tryz.underlying4 f6
      simp only [List.cons.injEq, and_true] at e0 e1 e2 e3 e4 e5 e6
      subst e0 e1 e2 e3 e4 e5 e6
      obtain ⟨m0, m1⟩ := bounds_i64 w0
      exact ⟨⟨m, b1, b2, b3, b4, b5, y⟩, rfl, ⟨m0, m1, w1, w2, w3, w4, w5⟩⟩
set_option maxRecDepth 100000 in
/-- A slice of items that came in. -/
theorem field_items {W : World} {v : Value} {n : Nat} {y : DataW H × List MemPlace} (hf : DataW.trod enc Tryz.prog W 0 (fun _ => true) true n 22 [v] = some y) :
    ∃ (A : Option Addr) (c : Nat) (l : List Dg.It), v = .slice A l.length c ∧ l.length ≤ 9223372036854775807 ∧ (∀ x ∈ l, ItW x) ∧ Its W W.heap.size A l ∧ l.length ≤ c := by
  rcases open_slice Tryz.underlying22 hf with ⟨hcs, _⟩ | ⟨a, len, cap, m, k, D, Pl, hcs, _, hl, hm, hmm, _, hi⟩
  · simp only [List.cons.injEq, and_true] at hcs
    subst hcs
    exact ⟨none, 0, [], rfl, by simp, by simp, Its.nil _ _ _, by simp⟩
  · simp only [List.cons.injEq, and_true] at hcs
    subst hcs
    simp only [if_true] at hmm
    unfold maxLen at hm
    rw [cItem] at hi
    have h1 : ∀ i, ∃ v : Dg.It, i < len → ItW v ∧ ∀ (j : Nat) (u : Value), (itV v)[j]? = some u → W.cell? ((a.add (i * 7)).add j) = some u := fun i => by
      by_cases hil : i < len
      · obtain ⟨cs', hc, ht⟩ := hi i (by omega)
        obtain ⟨v, hcs, hw⟩ := trod_item ht
        obtain ⟨_, hcl, hat⟩ := World.cells?_some hc
        refine ⟨v, fun _ => ⟨hw, fun j u hj => ?_⟩⟩
        have hj7 : j < 7 := (Array.getElem?_eq_some_iff.1 hj).1
        rw [hat j hj7, hcs, Array.getElem?_toList]
        exact hj
      · exact ⟨⟨0, ⟨#[]⟩, ⟨#[]⟩, ⟨#[]⟩, ⟨#[]⟩, ⟨#[]⟩, false⟩, fun h => absurd h hil⟩
    obtain ⟨f, hfv⟩ := Classical.axiomOfChoice h1
    have hlen : ((List.range len).map f).length = len := by rw [List.length_map, List.length_range]
    refine ⟨some a, cap, (List.range len).map f, by rw [hlen], by rw [hlen]; omega, fun v hv => ?_, ⟨fun h0 => ?_⟩, by rw [hlen]; exact hl⟩
    · obtain ⟨i, hir, rfl⟩ := List.mem_map.1 hv
      exact (hfv i (List.mem_range.1 hir)).1
    · rw [hlen] at h0
      obtain ⟨_, hc0⟩ := hfv 0 h0
      have h00 : (a.add (0 * 7)).add 0 = a := by unfold Addr.add; simp
      obtain ⟨e, hb⟩ := addr_of_cell (h00 ▸ hc0 0 _ rfl)
      refine ⟨a.block, a.off, by rw [← e], hb, fun j v hj i u hu => ?_⟩
      have hjl : j < len := by
        have := (List.getElem?_eq_some_iff.1 hj).1
        rw [hlen] at this; exact this
      rw [List.getElem?_map, List.getElem?_range hjl] at hj
      obtain rfl : f j = v := by simpa using hj
      obtain ⟨_, hc⟩ := hfv j hjl
      have e2 : (a.add (j * 7)).add i = ⟨a.block, a.off + j * 7 + i, none⟩ := by
        rw [e]
        rw [add_plain, add_plain]
      rw [← e2]
      exact hc i u hu
set_option maxRecDepth 100000 in
/-- A code. -/
theorem open_code {W : World} {v : Value} {d : DataW H} {p : List MemPlace} {base : Nat} (hv : Value.okWide Tryz.prog W .any base 24 v) (h : DataW.Trod enc Tryz.prog W 0 (fun _ => true) true 24 v d p) :
    ∃ (A : Option Addr) (c : Nat) (l : List Dg.It), v = .agg #[.slice A l.length c] ∧ l.length ≤ 9223372036854775807 ∧ (∀ x ∈ l, ItW x) ∧ Its W W.heap.size A l ∧ l.length ≤ c := by
  obtain ⟨cs, rfl, hsz⟩ := okWide_struct Tryz.underlying24 hv
  obtain ⟨l⟩ := cs
  match l, hsz.trans cCode with
  | [c0], _ =>
    obtain ⟨fuel, hf0⟩ := h
    obtain ⟨xs, n, _, _, _, hxl, hf⟩ := DataW.trod_struct Tryz.underlying24 hf0
    match xs, hxl with
    | [y0], _ =>
      have f0 : DataW.trod enc Tryz.prog W 0 (fun _ => true) true n 22 [c0] = some y0 := by simpa [Value.cells, cItems] using hf 0 _ rfl
      obtain ⟨A, c, l, rfl, a1, a2, a3, a4⟩ := field_items f0
      exact ⟨A, c, l, rfl, a1, a2, a3, a4⟩
end Go.Proofs.YtpldhempbdionaaGreatDoor

