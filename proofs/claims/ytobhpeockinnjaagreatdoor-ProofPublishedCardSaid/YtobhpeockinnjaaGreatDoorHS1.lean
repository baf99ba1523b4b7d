/- Walks and laws of this seat, several texts in one: P26, P27, PO. No conditions but those that each theorem states. -/
import Derived.Test.YtobhpeockinnjaaGreatDoorHA7
/- What a reader is told, in memory; short of pandectlaw44. No conditions but those that each theorem states. -/
namespace Go.Proofs.YtobhpeockinnjaaGreatDoor
open Go Go.RowKit Go.Sort Go.Maps
attribute [local go_sem] Oper.semAt_some
/-- What a reader is told. -/
structure Td where
  day : Int
  count : Int
  root : ByteArray
  wrong : Bool
def tdV (x : Td) : List Value := [.int .i64 x.day, .int .i64 x.count, .string x.root, .bool x.wrong]
structure Tds (w : World) (B : Nat) (A : Option Addr) (l : List Td) : Prop where
  at_ : 0 < l.length → ∃ b off, A = some ⟨b, off, none⟩ ∧ b < B ∧ ∀ (j : Nat) (x : Td), l[j]? = some x → ∀ (i : Nat) (u : Value), (tdV x)[i]? = some u → w.cell? ⟨b, off + j * 4 + i, none⟩ = some u
theorem Tds.below {w w' : World} {B : Nat} {A : Option Addr} {l : List Td} (h : Tds w B A l) (hb : Below B w w') : Tds w' B A l :=
  ⟨fun h0 => by
    obtain ⟨b, off, e, hlt, hc⟩ := h.at_ h0
    exact ⟨b, off, e, hlt, fun j x hj i u hu => (hb.cell (p := ⟨b, off + j * 4 + i, none⟩) hlt).trans (hc j x hj i u hu)⟩⟩
theorem Tds.more {w : World} {B B' : Nat} {A : Option Addr} {l : List Td} (h : Tds w B A l) (hB : B ≤ B') : Tds w B' A l :=
  ⟨fun h0 => by
    obtain ⟨b, off, e, hlt, hc⟩ := h.at_ h0
    exact ⟨b, off, e, Nat.lt_of_lt_of_le hlt hB, hc⟩⟩
theorem Tds.keep {w w' : World} {A : Option Addr} {l : List Td} (h : Tds w w.heap.size A l) (hb : Below w.heap.size w w') : Tds w' w'.heap.size A l := (h.below hb).more hb.size
theorem Tds.get {w : World} {B : Nat} {A : Option Addr} {l : List Td} (h : Tds w B A l) {k : Nat} (hk : k < l.length) : ∃ b off, A = some ⟨b, off, none⟩ ∧ b < B ∧
    w.cell? ⟨b, off + k * 4, none⟩ = some (.int .i64 l[k].day) ∧ w.cell? ⟨b, off + k * 4 + 1, none⟩ = some (.int .i64 l[k].count) ∧ w.cell? ⟨b, off + k * 4 + 2, none⟩ = some (.string l[k].root) ∧ w.cell? ⟨b, off + k * 4 + 3, none⟩ = some (.bool l[k].wrong) := by
  obtain ⟨b, off, e, hb, hc⟩ := h.at_ (by omega)
  have h0 := hc k _ (List.getElem?_eq_getElem hk)
  exact ⟨b, off, e, hb, h0 0 _ rfl, h0 1 _ rfl, h0 2 _ rfl, h0 3 _ rfl⟩
def shortL (l : List Td) (m : Int) : Bool := decide ((l.length : Int) ≤ m) && l.all fun x => decide (x.root.size ≤ 100)
theorem shortL_spec {l : List Td} {m : Int} (h : shortL l m = true) : (l.length : Int) ≤ m ∧ ∀ x ∈ l, x.root.size ≤ 100 := by
  unfold shortL at h
  rw [Bool.and_eq_true, List.all_eq_true] at h
  exact ⟨of_decide_eq_true h.1, fun x hx => of_decide_eq_true (h.2 x hx)⟩
set_option maxRecDepth 100000 in
set_option maxHeartbeats 4000000 in
theorem short_of (l : List Td) (A : Option Addr) (n c : Nat) (hl : l.length = n) (hn : n ≤ 9223372036854775807) (m : Int) (w : World) (hT : Tds w w.heap.size A l) (hz : ∀ x ∈ l, x.root.size ≤ 9223372036854775807) (R : Bool) (hR : shortL l m = R) :
    Calls Tryz.prog 13 #[.slice A n c, .int .i64 m] w fun e w' => e = .returned (.bool R) ∧ Below w.heap.size w w' := by
  have HL := hide hl; have HR := hide hR; have HZ := hide hz
  clear hl hR hz
  by_cases hnm : (n : Int) ≤ m
  · go_enter Tryz.func13, Tryz.ntmps13
    go_wp2
    go_loopw [5] (fun i wr => ∃ k : Nat, k ≤ n ∧ i = .int .i64 k ∧ Below w.heap.size w wr ∧ Hid (∀ x ∈ l.take k, x.root.size ≤ 100)) (fun i _ => n - (intOf i).toNat)
    case atStart => exact ⟨0, by omega, rfl, Below.refl _ _, fun x hx => by simp at hx⟩
    case round =>
      obtain ⟨k, hk, rfl, hb, hall⟩ := hrel
      by_cases hlt : k < n
      · have hkl : k < l.length := by rw [HL.out]; exact hlt
        obtain ⟨b, off, rfl, hbl, _, _, hc2, _⟩ := (hT.below hb).get hkl
        have hts := hide (List.take_succ_eq_append_getElem hkl)
        have hmem := hide (List.getElem_mem hkl)
        have hkn : (k : Int) < (n : Int) := by omega
        have hk0 : (0 : Int) ≤ (k : Int) := by omega
        generalize l[k] = x at *
        have hxz := HZ.out x hmem.out
        by_cases hx : x.root.size ≤ 100
        · have hgt : ¬ ((100 : Int) < (x.root.size : Int)) := by omega
          have HX := hide hx; clear hx
          go_wp2
          go_roundw
          case rel => exact ⟨k + 1, by omega, by go_num, hb, fun z hz => by
            rw [hts.out] at hz
            rcases List.mem_append.1 hz with hz | hz
            · exact hall.out z hz
            · rw [List.mem_singleton.1 hz]; exact HX.out⟩
          case measure => simp [intOf]; omega
        · have hgt : ((100 : Int) < (x.root.size : Int)) := by omega
          have HX := hide hx; clear hx
          have E9 := hide (show false = R by
            rw [← HR.out]
            cases h : shortL l m with
            | false => rfl
            | true => exact absurd ((shortL_spec h).2 x hmem.out) HX.out)
          go_wp2
          go_ret
          exact ⟨ret_bool E9.out, hb⟩
      · obtain rfl : k = n := by omega
        have E9 := hide (show true = R by
          rw [← HR.out]
          unfold shortL
          rw [decide_eq_true (show (l.length : Int) ≤ m by rw [HL.out]; exact hnm), List.all_eq_true.2 fun x hx => decide_eq_true (hall.out x (by rw [← HL.out, List.take_length]; exact hx))]
          rfl)
        go_wp2
        go_ret
        exact ⟨ret_bool E9.out, hb⟩
  · have E9 := hide (show false = R by
      rw [← HR.out]
      cases h : shortL l m with
      | false => rfl
      | true => exact absurd (by have := (shortL_spec h).1; rw [HL.out] at this; exact this) hnm)
    go_enter Tryz.func13, Tryz.ntmps13
    go_wp2
    go_loopw [5] (fun i wr => i = .int .i64 0 ∧ Below w.heap.size w wr) (fun _ _ => 0)
    case atStart => exact ⟨rfl, Below.refl _ _⟩
    case round =>
      obtain ⟨rfl, hb⟩ := hrel
      by_cases h0 : (0 : Int) < (n : Int)
      · go_wp2
        go_ret
        exact ⟨ret_bool ((decide_eq_false (show ¬ (n : Int) ≤ m by omega)).trans E9.out), hb⟩
      · go_wp2
        go_ret
        exact ⟨ret_bool ((decide_eq_false (show ¬ (n : Int) ≤ m by omega)).trans E9.out), hb⟩
end Go.Proofs.YtobhpeockinnjaaGreatDoor
/- The law ProofSigned. No conditions but those that each theorem states. -/
namespace Go.Proofs.YtobhpeockinnjaaGreatDoor
open Go Go.RowKit Go.Sort Go.Maps
attribute [local go_sem] Oper.semAt_some
/-- The thing told in its variable. -/
structure TR (b : Nat) (x : Td) (X : World) : Prop where
  row : X.heap[b]? = some (.cells #[.int .i64 x.day, .int .i64 x.count, .string x.root, .bool x.wrong] 46 (0, 0))
  env : Env X
theorem TR.next {b : Nat} {x : Td} {X X' : World} (h : TR b x X) (hb : Below X.heap.size X X') : TR b x X' := ⟨iNext h.row hb, h.env.next hb⟩
theorem TR.cells {b : Nat} {x : Td} {X : World} (h : TR b x X) : X.cell? ⟨b, 0, none⟩ = some (.int .i64 x.day) ∧ X.cell? ⟨b, 1, none⟩ = some (.int .i64 x.count) ∧ X.cell? ⟨b, 2, none⟩ = some (.string x.root) ∧ X.cell? ⟨b, 3, none⟩ = some (.bool x.wrong) := by
  refine ⟨?_, ?_, ?_, ?_⟩ <;> (rw [cell_of_row _ _ _ _ _ (0, 0) h.row]; rfl)
theorem Tds.one (w : World) (x : Td) : Tds (w.alloc (.cells #[.int .i64 x.day, .int .i64 x.count, .string x.root, .bool x.wrong] 46)) (w.alloc (.cells #[.int .i64 x.day, .int .i64 x.count, .string x.root, .bool x.wrong] 46)).heap.size (some ⟨w.heap.size, 0, none⟩) [x] :=
  ⟨fun _ => ⟨w.heap.size, 0, rfl, by simp, fun j y hj i u hu => by
    rw [cell_of_row _ _ _ _ _ (0, 0) (heap_alloc_new w _)]
    match j, hj with
    | 0, hj =>
      cases hj
      simp only [Nat.zero_mul, Nat.zero_add]
      rw [← Array.getElem?_toList]
      exact hu⟩⟩
theorem fewS_small {SG : List ByteArray} (h1 : SG.length = 18) (h2 : ∀ s ∈ SG, s.size ≤ 100) : fewS SG [] = true :=
  (fewS_iff _ _).2 ⟨⟨by omega, h2⟩, ⟨by simp, fun s hs => by cases hs⟩⟩
set_option maxRecDepth 100000 in
set_option maxHeartbeats 16000000 in
theorem law_signed44 (x : Td) (d0 : -9223372036854775808 ≤ x.day) (d1 : x.day ≤ 9223372036854775807) (c0 : -9223372036854775808 ≤ x.count) (c1 : x.count ≤ 9223372036854775807) (hz : x.root.size ≤ 9223372036854775807) (w : World) (he : Env w) :
    Calls Tryz.prog 7 #[.agg #[.int .i64 x.day, .int .i64 x.count, .string x.root, .bool x.wrong]] w fun e w' => e = .returned (.bool true) ∧ Below w.heap.size w w' := by
  have hb1 := Below.news (Below.refl w.heap.size w) (.cells #[.int .i64 x.day, .int .i64 x.count, .string x.root, .bool x.wrong] 46)
  have hT1 : TR w.heap.size x (w.alloc (.cells #[.int .i64 x.day, .int .i64 x.count, .string x.root, .bool x.wrong] 46)) := ⟨heap_alloc_new w _, he.next hb1⟩
  go_enter Tryz.func7, Tryz.ntmps7
  go_wp2_with fail
  generalize w.alloc (.cells #[.int .i64 x.day, .int .i64 x.count, .string x.root, .bool x.wrong] 46) = w1 at *
  refine (head44_of w1 hT1.env).mono ?_
  rintro e w2 ⟨rfl, hx⟩
  have hT2 := hT1.next hx
  have hb2 := bnext hb1 hx
  clear hT1 hb1 hx
  obtain ⟨q0, q1, q2, q3⟩ := hT2.cells
  have hx := Below.news (Below.refl w2.heap.size w2) (.cells #[.int .i64 x.day, .int .i64 x.count, .string x.root, .bool x.wrong] 46)
  have hD := Tds.one w2 x
  have hT3 := hT2.next hx
  have hb3 := bnext hb2 hx
  obtain ⟨F, hF⟩ : ∃ F, shortL [x] 1 = F := ⟨_, rfl⟩
  go_wp2_with fail
  refine (short_of [x] (some ⟨w2.heap.size, 0, none⟩) 1 1 rfl (by decide) 1 _ hD (fun y hy => by rw [List.mem_singleton.1 hy]; exact hz) F hF).mono ?_
  rintro e w4 ⟨rfl, hx4⟩
  have hT4 := hT3.next hx4
  have hb4 := bnext hb3 hx4
  clear hT2 hT3 hb2 hb3 hx hx4 hD q0 q1 q2 q3
  cases F with
  | false =>
    go_wp2
    go_ret
    exact ⟨rfl, hb4⟩
  | true =>
    have hrz : x.root.size ≤ 100 := (shortL_spec hF).2 x (List.mem_singleton.2 rfl)
    clear hF
    obtain ⟨K, hK⟩ : ∃ K, Dg.publicB offB 0 = K := ⟨_, rfl⟩
    obtain ⟨SG, hSG⟩ : ∃ S, Dg.sigB (secB x.wrong) 0 (msgB x.day x.count x.root) = S := ⟨_, rfl⟩
    have N1 := hide (show SG.length = 18 by rw [← hSG]; exact Dg.sigB_len _ _ _)
    have Z1 := hide (show ∀ s ∈ SG, s.size ≤ 1048576 by rw [← hSG]; exact sigB_small _ _ _)
    have Z2 := hide (show ∀ s ∈ SG, s.size ≤ 100 by
      rw [← hSG]
      intro s hs
      rw [isB_16 (Dg.sigB_isB _ _ _) s hs]; decide)
    have HK := hide hK; have HSG := hide hSG; have HRZ := hide hrz
    clear hK hSG hrz
    obtain ⟨q0, q1, q2, q3⟩ := hT4.cells
    go_wp2_with fail
    refine (signed_of x.day x.count x.root x.wrong d0 d1 c0 c1 (Nat.le_trans HRZ.out (by decide)) w4 hT4.env K HK.out SG HSG.out).mono ?_
    rintro e w5 ⟨A, c, A', c', rfl, hc, hS, hx⟩
    have hs := SR.new (c := c) (A' := A') (c' := c') hS
    have hx6 := Below.news (Below.refl w5.heap.size w5) (.cells #[.int .i64 0, .slice A 18 c, .slice A' 0 c'] 42)
    have hT6 := (hT4.next hx).next hx6
    have hb6 := bnext (bnext hb4 hx) hx6
    clear hT4 hb4 hx hx6 q0 q1 q2 q3 hS
    go_wp2_with fail
    generalize w5.alloc (.cells #[.int .i64 0, .slice A 18 c, .slice A' 0 c'] 42) = w6 at *
    generalize w5.heap.size = s1 at *
    refine (pnew_of K w6).mono ?_
    rintro e w7 ⟨rfl, hR, _, hx⟩
    have hmb : w.heap.size ≤ w6.heap.size := hb6.size
    have n1 : s1 ≠ w6.heap.size := Nat.ne_of_lt (lt_of_block hs.row)
    have n2 : w.heap.size ≠ w6.heap.size := Nat.ne_of_lt (lt_of_block hT6.row)
    replace hs := hs.next hx
    have hT7 := hT6.next hx
    have hb7 := bnext hb6 hx
    clear hx hT6 hb6
    generalize w6.heap.size + 1 = br at *
    generalize w6.heap.size = mb at *
    have hm := map_row hR.map
    obtain ⟨V, hV⟩ : ∃ V, verifyB K (msgB x.day x.count x.root) 0 SG [] = V := ⟨_, rfl⟩
    obtain ⟨E, D, hE⟩ : ∃ E D, learnE [] V x.day x.count x.root = (E, D) := ⟨_, _, rfl⟩
    have HV := hide hV; have HE := hide hE
    clear hV hE
    obtain ⟨q0, q1, q2, q3⟩ := hT7.cells
    obtain ⟨y0, y1, y2⟩ := jCells3 hs.row
    go_wp2_with fail
    refine (plearn_of br mb K [] x.day x.count x.root d0 d1 c0 c1 (Nat.le_trans HRZ.out (by decide)) (by decide) 0 A 18 c SG A' 0 c' [] N1.out Z1.out rfl (fun s hs => by cases hs) hc w7 hT7.env hs.strs ⟨fun h => by simp at h⟩ hR V HV.out E D HE.out).mono ?_
    rintro e w8 ⟨rfl, hR8, ho⟩
    have hb8 := hb7.trans (ho.below (B := w.heap.size) hb7.size (by simpa using hmb))
    have hT8 : TR w.heap.size x w8 := ⟨ho.row hT7.row (by simpa using n2), he.next hb8⟩
    have hs8 := hs.learn hm ho n1
    clear hs hT7 hb7 hR hm ho q0 q1 q2 q3 y0 y1 y2
    obtain ⟨q0, q1, q2, q3⟩ := hT8.cells
    by_cases hbad : learnBad x.day x.count x.root
    · have hE1 := HE.out
      rw [learnE_bad hbad] at hE1
      injection hE1 with e1 e2
      subst e1 e2
      clear hs8 HE HV hbad
      have hfin : Hid (∀ w', w' = w8 → Calls Tryz.prog 29 #[.pointer (some ⟨br, 0, none⟩)] w' fun e w9 => (∃ A9 c9, e = .returned (.slice A9 0 c9)) ∧ Below w.heap.size w w9) := fun w' e => by
        subst e
        refine (pdays_of br mb K [] (by decide) _ hR8).mono ?_
        rintro e w9 ⟨⟨A9, c9, rfl, _⟩, hx⟩
        have hd0 : daysS [] = [] := List.eq_nil_of_length_eq_zero (by unfold daysS; rw [List.length_mergeSort]; rfl)
        exact ⟨⟨A9, c9, by rw [hd0]; rfl⟩, bnext hb8 hx⟩
      by_cases h1 : (0 : Int) ≤ x.day
      · by_cases h2 : x.day ≤ (1000000 : Int)
        · by_cases h3 : (0 : Int) ≤ x.count
          · by_cases h4 : x.count ≤ (2000 : Int)
            · by_cases h5 : ((x.root.size : Int) == 16) = true
              all_goals
                first | (rw [Bool.not_eq_true] at h5) | skip
                go_wp2_with fail
                refine (hfin.out _ rfl).mono ?_
                rintro e w9 ⟨⟨A9, c9, rfl⟩, hb9⟩
                go_wp2
                go_ret
                exact ⟨rfl, hb9⟩
            · go_wp2_with fail
              refine (hfin.out _ rfl).mono ?_
              rintro e w9 ⟨⟨A9, c9, rfl⟩, hb9⟩
              go_wp2
              go_ret
              exact ⟨rfl, hb9⟩
          · go_wp2_with fail
            refine (hfin.out _ rfl).mono ?_
            rintro e w9 ⟨⟨A9, c9, rfl⟩, hb9⟩
            go_wp2
            go_ret
            exact ⟨rfl, hb9⟩
        · go_wp2_with fail
          refine (hfin.out _ rfl).mono ?_
          rintro e w9 ⟨⟨A9, c9, rfl⟩, hb9⟩
          go_wp2
          go_ret
          exact ⟨rfl, hb9⟩
      · go_wp2_with fail
        refine (hfin.out _ rfl).mono ?_
        rintro e w9 ⟨⟨A9, c9, rfl⟩, hb9⟩
        go_wp2
        go_ret
        exact ⟨rfl, hb9⟩
    · have h1 : (0 : Int) ≤ x.day := by
        by_cases h : x.day < 0
        · exact absurd (Or.inl h) hbad
        · omega
      have h2 : x.day ≤ (1000000 : Int) := by
        by_cases h : 1000000 < x.day
        · exact absurd (Or.inr (Or.inl h)) hbad
        · omega
      have h3 : (0 : Int) ≤ x.count := by
        by_cases h : x.count < 0
        · exact absurd (Or.inr (Or.inr (Or.inl h))) hbad
        · omega
      have h4 : x.count ≤ (2000 : Int) := by
        by_cases h : 2000 < x.count
        · exact absurd (Or.inr (Or.inr (Or.inr (Or.inl h)))) hbad
        · omega
      have hisB : Dg.isB x.root = true := by
        cases h : Dg.isB x.root with
        | true => rfl
        | false => exact absurd (Or.inr (Or.inr (Or.inr (Or.inr h)))) hbad
      have h5 : ((x.root.size : Int) == 16) = true := by
        rw [Dg.isB_len hisB]; rfl
      have hne1 : ((E : Int) == 1) = false := by
        have hE1 := HE.out
        cases V with
        | false =>
          rw [learnE_key hbad] at hE1
          injection hE1 with e1 e2
          subst e1; rfl
        | true =>
          rw [learnE_new hbad rfl] at hE1
          injection hE1 with e1 e2
          subst e1; rfl
      have HBAD := hide hbad
      clear hbad hisB
      have hmx : Tryz.prog.follows .mixedOrders = true := by kernel_rfl
      go_upto_region 12 with (fail)
      clear q0 q1 q2 q3 h1 h2 h3 h4 h5
      refine wp_region_noPanic ?_
      refine wp_region_L (fun X_ : World => TR w.heap.size x X_ ∧ SR s1 A c A' c' SG X_ ∧ Rd br mb K D X_) 11 hmx ?_
      have hdr := (Below.refl w8.heap.size w8).drew
      have hS3 : (fun X_ : World => TR w.heap.size x X_ ∧ SR s1 A c A' c' SG X_ ∧ Rd br mb K D X_) w8.drew := ⟨hT8.next hdr, hs8.next hdr, hR8.below hdr⟩
      have hb3 := bnext hb8 hdr
      clear hdr hT8 hs8 hR8 hb8
      generalize w8.drew = w3 at *
      obtain ⟨M, hM⟩ : ∃ M, msgB x.day x.count x.root = M := ⟨_, rfl⟩
      have HM := hide hM
      have HVM := hide (show verifyB K M 0 SG [] = V by rw [← hM]; exact HV.out)
      have HMZ := hide (show M.size ≤ 9223372036854775807 by rw [← hM, msgB_size]; decide)
      clear hM
      refine wpAnyL_take (i := 0) (f0 := 13) (v := ?_) rfl (by decide +kernel) (by decide +kernel) (by decide +kernel) (by decide +kernel) (by decide +kernel) (fun _ _ _ h => h) (Or.inl ⟨by rfl, ?_⟩) hS3 ?_
      rotate_left
      · intro wS hS; go_simp; (try with_reducible rfl)
      simp only [Act.put, List.getElem_toArray, List.getElem_cons_zero, List.setIfInBounds_toArray, List.set_cons_succ, List.set_cons_zero]
      refine wpAnyL_take (i := 1) (f0 := 13) (v := ?_) rfl (by decide +kernel) (by decide +kernel) (by decide +kernel) (by decide +kernel) (by decide +kernel) (fun _ _ _ h => h) (Or.inl ⟨by rfl, ?_⟩) hS3 ?_
      rotate_left
      · intro wS hS; go_simp; (try with_reducible rfl)
      simp only [Act.put, List.getElem_toArray, List.getElem_cons_succ, List.getElem_cons_zero, List.setIfInBounds_toArray, List.set_cons_succ, List.set_cons_zero]
      refine wpAnyL_take (i := 2) (f0 := 13) (v := ?_) rfl (by decide +kernel) (by decide +kernel) (by decide +kernel) (by decide +kernel) (by decide +kernel) (fun _ _ _ h => h) (Or.inl ⟨by rfl, ?_⟩) hS3 ?_
      rotate_left
      · intro wS hS; obtain ⟨q0, q1, q2, q3⟩ := hS.1.cells; go_simp; (try with_reducible rfl)
      simp only [Act.put, List.getElem_toArray, List.getElem_cons_succ, List.getElem_cons_zero, List.setIfInBounds_toArray, List.set_cons_succ, List.set_cons_zero]
      refine wpAnyL_take (i := 3) (f0 := 13) (v := ?_) rfl (by decide +kernel) (by decide +kernel) (by decide +kernel) (by decide +kernel) (by decide +kernel) (fun _ _ _ h => h) (Or.inl ⟨by rfl, ?_⟩) hS3 ?_
      rotate_left
      · intro wS hS; go_simp; (try with_reducible rfl)
      simp only [Act.put, List.getElem_toArray, List.getElem_cons_succ, List.getElem_cons_zero, List.setIfInBounds_toArray, List.set_cons_succ, List.set_cons_zero]
      refine wpAnyL_take (i := 4) (f0 := 13) (v := ?_) rfl (by decide +kernel) (by decide +kernel) (by decide +kernel) (by decide +kernel) (by decide +kernel) (fun _ _ _ h => h) (Or.inl ⟨by rfl, ?_⟩) hS3 ?_
      rotate_left
      · intro wS hS; obtain ⟨q0, q1, q2, q3⟩ := hS.1.cells; go_simp; (try with_reducible rfl)
      simp only [Act.put, List.getElem_toArray, List.getElem_cons_succ, List.getElem_cons_zero, List.setIfInBounds_toArray, List.set_cons_succ, List.set_cons_zero]
      refine wpAnyL_take (i := 5) (f0 := 13) (v := ?_) rfl (by decide +kernel) (by decide +kernel) (by decide +kernel) (by decide +kernel) (by decide +kernel) (fun _ _ _ h => h) (Or.inl ⟨by rfl, ?_⟩) hS3 ?_
      rotate_left
      · intro wS hS; go_simp; (try with_reducible rfl)
      simp only [Act.put, List.getElem_toArray, List.getElem_cons_succ, List.getElem_cons_zero, List.setIfInBounds_toArray, List.set_cons_succ, List.set_cons_zero]
      refine wpAnyL_take (i := 6) (f0 := 13) (v := ?_) rfl (by decide +kernel) (by decide +kernel) (by decide +kernel) (by decide +kernel) (by decide +kernel) (fun _ _ _ h => h) (Or.inl ⟨by rfl, ?_⟩) hS3 ?_
      rotate_left
      · intro wS hS; obtain ⟨q0, q1, q2, q3⟩ := hS.1.cells; go_simp; (try with_reducible rfl)
      simp only [Act.put, List.getElem_toArray, List.getElem_cons_succ, List.getElem_cons_zero, List.setIfInBounds_toArray, List.set_cons_succ, List.set_cons_zero]
      refine wpAnyL_take (i := 8) (f0 := 13) (v := ?_) rfl (by decide +kernel) (by decide +kernel) (by decide +kernel) (by decide +kernel) (by decide +kernel) (fun _ _ _ h => h) (Or.inl ⟨by rfl, ?_⟩) hS3 ?_
      rotate_left
      · intro wS hS; obtain ⟨q0, q1, q2⟩ := jCells3 hS.2.1.row; go_simp; (try with_reducible rfl)
      simp only [Act.put, List.getElem_toArray, List.getElem_cons_succ, List.getElem_cons_zero, List.setIfInBounds_toArray, List.set_cons_succ, List.set_cons_zero]
      refine wpAnyL_one (i := 7) (by decide +kernel) (by rfl) (fun K9 hK => ?_)
      rw [if_pos (by rfl)]
      go_simp
      refine (pmsg_of x.day x.count x.root d0 d1 c0 c1 (Nat.le_trans HRZ.out (by decide)) M HM.out w3 hS3.1.env).mono ?_
      rintro e w9 ⟨rfl, hx4⟩
      have hS4 : (fun X_ : World => TR w.heap.size x X_ ∧ SR s1 A c A' c' SG X_ ∧ Rd br mb K D X_) w9 := ⟨hS3.1.next hx4, hS3.2.1.next hx4, hS3.2.2.below hx4⟩
      have hb4 := bnext hb3 hx4
      refine hK.out _ _ (Or.inr hS4) ?_
      clear hK K9 hS3 hb3 hx4
      try simp only [Act.put, List.getElem_toArray, List.getElem_cons_succ, List.getElem_cons_zero, List.setIfInBounds_toArray, List.set_cons_succ, List.set_cons_zero]
      refine wpAnyL_one (i := 9) (by decide +kernel) (by rfl) (fun K9 hK => ?_)
      rw [if_pos (by rfl)]
      go_simp
      refine (verify_of K M 0 A A' 18 0 c c' SG [] w9 hS4.1.env HMZ.out N1.out (fun s hs => Nat.le_trans (Z1.out s hs) (by decide)) hS4.2.1.strs rfl (fun s hs => by cases hs) ⟨fun h => by simp at h⟩ hc V HVM.out).mono ?_
      rintro e w10 ⟨rfl, hx5⟩
      have hS5 : (fun X_ : World => TR w.heap.size x X_ ∧ SR s1 A c A' c' SG X_ ∧ Rd br mb K D X_) w10 := ⟨hS4.1.next hx5, hS4.2.1.next hx5, hS4.2.2.below hx5⟩
      have hb5 := bnext hb4 hx5
      refine hK.out _ _ (Or.inr hS5) ?_
      clear hK K9 hS4 hb4 hx5
      try simp only [Act.put, List.getElem_toArray, List.getElem_cons_succ, List.getElem_cons_zero, List.setIfInBounds_toArray, List.set_cons_succ, List.set_cons_zero]
      refine wpAnyL_take (i := 10) (f0 := 13) (v := ?_) rfl (by decide +kernel) (by decide +kernel) (by decide +kernel) (by decide +kernel) (by decide +kernel) (fun _ _ _ h => h) (Or.inl ⟨by rfl, ?_⟩) hS5 ?_
      rotate_left
      · intro wS hS; go_simp; (try with_reducible rfl)
      simp only [Act.put, List.getElem_toArray, List.getElem_cons_succ, List.getElem_cons_zero, List.setIfInBounds_toArray, List.set_cons_succ, List.set_cons_zero]
      refine wpAnyL_done (by decide +kernel) ?_ _
      refine NoPanic.normal ?_
      obtain ⟨hT10, hs10, hR10⟩ := hS5
      have hFS : fewS SG [] = true := fewS_small N1.out Z2.out
      have hdl : (daysS D).length = (if V = true then 1 else 0) := by
        have hE1 := HE.out
        cases V with
        | false =>
          rw [learnE_key HBAD.out] at hE1
          injection hE1 with e1 e2
          subst e2
          unfold daysS; rw [List.length_mergeSort]; rfl
        | true =>
          rw [learnE_new HBAD.out rfl] at hE1
          injection hE1 with e1 e2
          subst e2
          unfold daysS; rw [List.length_mergeSort]; rfl
      have hwr : x.wrong = false → V = true := fun h => by
        rw [← HV.out, ← HK.out, ← HSG.out, h]
        exact ex_v1 _
      have hE2 : E = if V = true then 0 else 19 := by
        have hE1 := HE.out
        cases V with
        | false => rw [learnE_key HBAD.out] at hE1; injection hE1 with e1 e2; exact e1.symm
        | true => rw [learnE_new HBAD.out rfl] at hE1; injection hE1 with e1 e2; exact e1.symm
      have hDl : D.length ≤ 1048576 := by
        have hE1 := HE.out
        cases V with
        | false => rw [learnE_key HBAD.out] at hE1; injection hE1 with e1 e2; rw [← e2]; decide
        | true => rw [learnE_new HBAD.out rfl] at hE1; injection hE1 with e1 e2; rw [← e2]; simp
      obtain ⟨q0, q1, q2, q3⟩ := hT10.cells
      obtain ⟨y0, y1, y2⟩ := jCells3 hs10.row
      have HFS := hide hFS; have HDL := hide hdl; have HDL2 := hide hDl
      clear hFS hdl hDl HE HV HVM HBAD hne1 q0 q1 q2
      cases V with
      | false =>
        have hw1 : x.wrong = true := by
          cases h : x.wrong with
          | true => rfl
          | false => exact absurd (hwr h) (by decide)
        rw [hw1] at q3
        obtain rfl : E = 19 := hE2
        clear hwr
        go_wp2_with fail
        refine (rfew3_of 0 A A' c c' 18 0 SG [] true HFS.out w10 N1.out rfl (by decide) (by decide) (fun s hs => Nat.le_trans (Z1.out s hs) (by decide)) (fun s hs => by cases hs) hs10.strs ⟨fun h => by simp at h⟩).mono ?_
        rintro e w11 ⟨rfl, hx⟩
        have hb6 := bnext hb5 hx
        have hR11 := hR10.below hx
        go_wp2_with fail
        refine (pdays_of br mb K D HDL2.out w11 hR11).mono ?_
        rintro e w12 ⟨⟨A9, c9, rfl, _⟩, hx2⟩
        have hb7 := bnext hb6 hx2
        have h9 : (daysS D).length = 0 := HDL.out
        rw [h9]
        go_wp2
        go_ret
        exact ⟨rfl, hb7⟩
      | true =>
        obtain rfl : E = 0 := hE2
        clear hwr
        cases hw1 : x.wrong
        all_goals
          rw [hw1] at q3
          clear hw1
          go_wp2_with fail
          refine (rfew3_of 0 A A' c c' 18 0 SG [] true HFS.out w10 N1.out rfl (by decide) (by decide) (fun s hs => Nat.le_trans (Z1.out s hs) (by decide)) (fun s hs => by cases hs) hs10.strs ⟨fun h => by simp at h⟩).mono ?_
          rintro e w11 ⟨rfl, hx⟩
          have hb6 := bnext hb5 hx
          have hR11 := hR10.below hx
          go_wp2_with fail
          refine (pdays_of br mb K D HDL2.out w11 hR11).mono ?_
          rintro e w12 ⟨⟨A9, c9, rfl, _⟩, hx2⟩
          have hb7 := bnext hb6 hx2
          have h9 : (daysS D).length = 1 := HDL.out
          rw [h9]
          go_wp2
          go_ret
          exact ⟨rfl, hb7⟩
end Go.Proofs.YtobhpeockinnjaaGreatDoor
/- Things told that came in, opened. No conditions. -/
namespace Go.Proofs.YtobhpeockinnjaaGreatDoor
open Go Go.RowKit Go.ChangeShapes Go.WideShapes Go.ChangeAt Go.WideMaps Go.WideElems Go.Joins Go.Deep
variable {H : Type} {enc : TypeId × Value → H}
theorem cTold : Tryz.prog.cellsOf 46 = 4 := by kernel_rfl
structure TdW (x : Td) : Prop where
  d0 : -9223372036854775808 ≤ x.day
  d1 : x.day ≤ 9223372036854775807
  c0 : -9223372036854775808 ≤ x.count
  c1 : x.count ≤ 9223372036854775807
  rz : x.root.size ≤ 9223372036854775807
set_option maxRecDepth 100000 in
/-- The cells of a thing told that came in. -/
theorem trod_told {W : World} {k : Nat} {cs : List Value} {x : DataW H × List MemPlace} (h : DataW.trod enc Tryz.prog W 0 (fun _ => true) true k 46 cs = some x) :
    ∃ v : Td, cs = tdV v ∧ TdW v := by
  obtain ⟨xs, n, _, _, hlen, hxl, hf⟩ := DataW.trod_struct Tryz.underlying46 h
  rw [cTold] at hlen
  match cs, hlen with
  | [c0, c1, c2, c3], _ =>
    match xs, hxl with
    | [y0, y1, y2, y3], _ =>
      have f0 : DataW.trod enc Tryz.prog W 0 (fun _ => true) true n 3 [c0] = some y0 := by simpa [cIntC] using hf 0 _ rfl
      have f1 : DataW.trod enc Tryz.prog W 0 (fun _ => true) true n 3 [c1] = some y1 := by simpa [cIntC] using hf 1 _ rfl
      have f2 : DataW.trod enc Tryz.prog W 0 (fun _ => true) true n 9 [c2] = some y2 := by simpa [cellsStr] using hf 2 _ rfl
      have f3 : DataW.trod enc Tryz.prog W 0 (fun _ => true) true n 4 [c3] = some y3 := by simpa [cBoolC] using hf 3 _ rfl
      obtain ⟨m, e0, _, w0⟩ := DataW.trod_int Tryz.underlying3 f0
      obtain ⟨m', e1, _, w1⟩ := DataW.trod_int Tryz.underlying3 f1
      obtain ⟨b2, e2, _, w2⟩ := DataW.trod_string Tryz.underlying9 f2
      obtain ⟨y, e3, _⟩ := DataW.trod_bool Tryz.underlying4 f3
      simp only [List.cons.injEq, and_true] at e0 e1 e2 e3
      subst e0 e1 e2 e3
      obtain ⟨m0, m1⟩ := bounds_i64 w0
      obtain ⟨k0, k1⟩ := bounds_i64 w1
      exact ⟨⟨m, m', b2, y⟩, rfl, ⟨m0, m1, k0, k1, w2⟩⟩
set_option maxRecDepth 100000 in
theorem open_told {W : World} {v : Value} {d : DataW H} {p : List MemPlace} {base : Nat} (hv : Value.okWide Tryz.prog W .any base 46 v) (h : DataW.Trod enc Tryz.prog W 0 (fun _ => true) true 46 v d p) :
    ∃ x : Td, v = .agg #[.int .i64 x.day, .int .i64 x.count, .string x.root, .bool x.wrong] ∧ TdW x := by
  obtain ⟨cs, rfl, hsz⟩ := okWide_struct Tryz.underlying46 hv
  obtain ⟨l⟩ := cs
  obtain ⟨fuel, hf0⟩ := h
  obtain ⟨x, e, hx⟩ := trod_told hf0
  refine ⟨x, ?_, hx⟩
  have e' : l = tdV x := by simpa [Value.cells] using e
  rw [e']; rfl
end Go.Proofs.YtobhpeockinnjaaGreatDoor

