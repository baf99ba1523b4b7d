/- Walks and laws of this seat, several texts in one. No conditions but those that each theorem states. -/
import Derived.Test.YtobhpeockinnjaaGreatDoorHR5
import Derived.Below
import Derived.ChangeSame
import Derived.ProofKit
import Derived.OpenShut
import Derived.LaidMore
import Derived.Lay
import Derived.SevenTiedAt
import Derived.Stop.Joined
import Derived.SliceStrings
import Derived.Lib.SmallJoins
import Derived.Deep.Slices
import Derived.SizedLaws
/- The reference's Learn. No conditions but those that each theorem states. -/
namespace Go.Proofs.YtobhpeockinnjaaGreatDoor
open Go Go.RowKit Go.Sort Go.Maps
set_option maxRecDepth 100000 in
theorem learnt3_run (w : World) (x y : Dy) : (binOp .neq 97 (.agg #[.int .i64 x.1, .int .i64 x.2.1, .string x.2.2]) (.agg #[.int .i64 y.1, .int .i64 y.2.1, .string y.2.2])).run Tryz.prog w = .ok (.bool (!((x.1 == y.1) && ((x.2.1 == y.2.1) && (x.2.2.toList == y.2.2.toList))))) w := by
  have hS : Tryz.prog.underlying 97 = some (.struct (Tryz.prog.fieldsOf 97)) := by kernel_rfl
  have hp : Tryz.prog.stoodInHeld 97 = false := by kernel_rfl
  rw [run_neq_struct, show (10000 : Nat) = 9999 + 1 from rfl, run_equalIn_agg w 9999 97 _ _ hS hp]
  simp only [Program.fieldsOf, Tryz.underlying97]
  have u3 := Tryz.underlying3
  have u5 := Tryz.underlying9
  have a3 := Tryz.isAgg3
  have a5 := Tryz.isAgg9
  have z3 := Tryz.sizeOf3
  have z5 := Tryz.sizeOf9
  go_simp
  by_cases h1 : x.1 = y.1 <;> by_cases h2 : x.2.1 = y.2.1 <;> by_cases h3 : x.2.2.toList = y.2.2.toList <;> simp [h1, h2, h3]
theorem dy_eq {x y : Dy} : ((x.1 == y.1) && ((x.2.1 == y.2.1) && (x.2.2.toList == y.2.2.toList))) = true ↔ x = y := by
  rw [Bool.and_eq_true, Bool.and_eq_true, beq_iff_eq, beq_iff_eq, bs_iff]
  exact ⟨fun ⟨h1, h2, h3⟩ => Prod.ext h1 (Prod.ext h2 h3), fun h => by rw [h]; exact ⟨rfl, rfl, rfl⟩⟩
theorem rlearn_bad {M : List Dy} {V : Bool} {d c : Int} {root : ByteArray} (h : learnBad d c root) : rlearnE M V d c root = (1, M) := if_pos h
theorem rlearn_key {M : List Dy} {d c : Int} {root : ByteArray} (h : ¬ learnBad d c root) : rlearnE M false d c root = (19, M) := by unfold rlearnE; rw [if_neg h, if_pos rfl]
theorem rlearn_hit {M : List Dy} {d c : Int} {root : ByteArray} (h : ¬ learnBad d c root) {y : Dy} (hy : M[cntD M d]? = some y) (hd : y.1 = d) : rlearnE M true d c root = if y = (d, c, root) then (0, M) else (23, M) := by
  unfold rlearnE
  rw [if_neg h, if_neg (by decide), hy]
  exact if_pos hd
theorem rlearn_new {M : List Dy} {d c : Int} {root : ByteArray} (h : ¬ learnBad d c root) (hy : ∀ y, M[cntD M d]? = some y → y.1 ≠ d) : rlearnE M true d c root = (0, insD M (d, c, root)) := by
  unfold rlearnE
  rw [if_neg h, if_neg (by decide)]
  cases hm : M[cntD M d]? with
  | none => rfl
  | some y => exact if_neg (hy y hm)
/-- What Learn holds. -/
structure LR (br : Nat) (key : ByteArray) (M : List Dy) (A : Option Addr) (n c : Nat) (bs : Nat) (i : Int) (A1 : Option Addr) (n1 e1 : Nat) (sig : List ByteArray) (A2 : Option Addr) (n2 e2 : Nat) (path : List ByteArray) (X : World) : Prop where
  rr : RR br key M A n c X
  srow : X.heap[bs]? = some (.cells #[.int .i64 i, .slice A1 n1 e1, .slice A2 n2 e2] 42 (0, 0))
  sig : Strs X X.heap.size A1 sig
  path : Strs X X.heap.size A2 path
theorem LR.below {br : Nat} {key : ByteArray} {M : List Dy} {A : Option Addr} {n c : Nat} {bs : Nat} {i : Int} {A1 : Option Addr} {n1 e1 : Nat} {sig : List ByteArray} {A2 : Option Addr} {n2 e2 : Nat} {path : List ByteArray} {X X' : World} (h : LR br key M A n c bs i A1 n1 e1 sig A2 n2 e2 path X) (hb : Below X.heap.size X X') : LR br key M A n c bs i A1 n1 e1 sig A2 n2 e2 path X' := ⟨h.rr.below hb, iNext h.srow hb, keepS h.sig hb, keepS h.path hb⟩
/-- The variable x. -/
structure LX (w0 : World) (b5 : Nat) (day count : Int) (root : ByteArray) (X : World) : Prop where
  up : Below w0.heap.size w0 X
  row : X.heap[b5]? = some (.cells #[.int .i64 day, .int .i64 count, .string root] 97 (0, 0))
theorem LX.below {w0 : World} {b5 : Nat} {day count : Int} {root : ByteArray} {X X' : World} (h : LX w0 b5 day count root X) (hb : Below X.heap.size X X') : LX w0 b5 day count root X' := ⟨bnext h.up hb, iNext h.row hb⟩
/-- The list is laid into the reader. -/
theorem learn_end {br : Nat} {key : ByteArray} {M M2 : List Dy} {A : Option Addr} {n c : Nat} {w X : World} (hb : Below w.heap.size w X) (hR : RR br key M A n c X) {g cc : Nat} (hd : Dys X X.heap.size (some ⟨g, 0, none⟩) M2) (hc : M2.length ≤ cc) :
    RR br key M2 (some ⟨g, 0, none⟩) M2.length cc (X.setCell ⟨br, 1, none⟩ (.slice (some ⟨g, 0, none⟩) M2.length cc)) ∧ Off [br] w (X.setCell ⟨br, 1, none⟩ (.slice (some ⟨g, 0, none⟩) M2.length cc)) := by
  have h1 := setCell_rowN hR.row 1 (.slice (some ⟨g, 0, none⟩) M2.length cc)
  simp only [List.setIfInBounds_toArray, List.set_cons_zero, List.set_cons_succ] at h1
  have hz : (X.setCell ⟨br, 1, none⟩ (.slice (some ⟨g, 0, none⟩) M2.length cc)).heap.size = X.heap.size := by simp [World.setCell]
  refine ⟨⟨h1, ?_, rfl, hc, Or.inr ⟨g, 0, rfl⟩⟩, ⟨hb.os, hb.tape, hb.output, by rw [hz]; exact hb.size, fun k hk hn => ?_⟩⟩
  · rw [hz]
    exact hd.set (jCells2' hR.row).2 (fun x e => by cases e) (fun s e => by cases e) _
  · rw [setCell_off (by simpa using hn)]
    exact hb.block k hk
attribute [-go_sem] run_neq_struct in
set_option maxRecDepth 100000 in
set_option maxHeartbeats 16000000 in
theorem rlearn_of (br : Nat) (key : ByteArray) (M : List Dy) (A : Option Addr) (n c : Nat) (hn : n ≤ 1048576) (day count : Int) (root : ByteArray) (d0 : -9223372036854775808 ≤ day) (d1 : day ≤ 9223372036854775807) (k0 : -9223372036854775808 ≤ count) (k1 : count ≤ 9223372036854775807) (hr : root.size ≤ 1048576)
    (i : Int) (A1 : Option Addr) (n1 e1 : Nat) (sig : List ByteArray) (A2 : Option Addr) (n2 e2 : Nat) (path : List ByteArray) (hl : sig.length = n1) (hz : ∀ s ∈ sig, s.size ≤ 1048576) (hl2 : path.length = n2) (hz2 : ∀ s ∈ path, s.size ≤ 1048576) (he2 : n2 ≤ e2)
    (w : World) (hS : Strs w w.heap.size A1 sig) (hS2 : Strs w w.heap.size A2 path) (hR : RR br key M A n c w) (V : Bool) (hV : verifyB key (msgB day count root) i sig path = V) (E : Int) (M' : List Dy) (hE : rlearnE M V day count root = (E, M')) :
    Calls Tryz.prog 25 #[.pointer (some ⟨br, 0, none⟩), .int .i64 day, .int .i64 count, .string root, .agg #[.int .i64 i, .slice A1 n1 e1, .slice A2 n2 e2]] w fun e w' => e = .returned (.int .i64 E) ∧ (∃ A' n' c', RR br key M' A' n' c' w') ∧ Off [br] w w' := by
  have hmx : Tryz.prog.follows .mixedOrders = true := by kernel_rfl
  have hx1 := Below.news (Below.refl w.heap.size w) (.cells #[.int .i64 i, .slice A1 n1 e1, .slice A2 n2 e2] 42)
  have hS1 : LR br key M A n c w.heap.size i A1 n1 e1 sig A2 n2 e2 path (w.alloc (.cells #[.int .i64 i, .slice A1 n1 e1, .slice A2 n2 e2] 42)) := ⟨hR.below hx1, heap_alloc_new w _, keepS hS hx1, keepS hS2 hx1⟩
  have HRB := hide (fun X (hX : Below w.heap.size w X) => hR.below hX)
  have HBR := hide (lt_of_block hR.row)
  have HLEN := hide hR.len; have HCAP := hide hR.cap; have hsl := hR.sl
  have HL := hide hl; have HZ := hide hz; have HL2 := hide hl2; have HZ2 := hide hz2; have HV := hide hV; have HE := hide hE
  have hq1 : ((some (⟨br, 0, none⟩ : Addr)) : Option Addr) ≠ none := by simp
  clear hl hz hl2 hz2 hV hE hS hS2 hR hq1
  go_enter Tryz.func25, Tryz.ntmps25
  have hfin : Hid (∀ w', Below w.heap.size w w' → (rlearnE M V day count root).2 = M → (∃ A' n' c', RR br key M' A' n' c' w') ∧ Off [br] w w') := fun w' hb e => by
    rw [HE.out] at e
    exact ⟨⟨A, n, c, by rw [show M' = M from e]; exact HRB.out _ hb⟩, Off.of_below hb⟩
  by_cases g1 : day < 0
  · have E9 := hide (rlearn_bad (M := M) (V := V) (Or.inl g1 : learnBad day count root))
    go_wp2
    go_ret
    exact ⟨ret_err (by have := E9.out; rw [HE.out] at this; injection this with this _; exact this.symm), hfin.out _ hx1 (by rw [E9.out])⟩
  by_cases g2 : 1000000 < day
  · have E9 := hide (rlearn_bad (M := M) (V := V) (Or.inr (Or.inl g2) : learnBad day count root))
    go_wp2
    go_ret
    exact ⟨ret_err (by have := E9.out; rw [HE.out] at this; injection this with this _; exact this.symm), hfin.out _ hx1 (by rw [E9.out])⟩
  by_cases g3 : count < 0
  · have E9 := hide (rlearn_bad (M := M) (V := V) (Or.inr (Or.inr (Or.inl g3)) : learnBad day count root))
    go_wp2
    go_ret
    exact ⟨ret_err (by have := E9.out; rw [HE.out] at this; injection this with this _; exact this.symm), hfin.out _ hx1 (by rw [E9.out])⟩
  by_cases g4 : 2000 < count
  · have E9 := hide (rlearn_bad (M := M) (V := V) (Or.inr (Or.inr (Or.inr (Or.inl g4))) : learnBad day count root))
    go_wp2
    go_ret
    exact ⟨ret_err (by have := E9.out; rw [HE.out] at this; injection this with this _; exact this.symm), hfin.out _ hx1 (by rw [E9.out])⟩
  go_wp2_with fail
  generalize w.alloc (.cells #[.int .i64 i, .slice A1 n1 e1, .slice A2 n2 e2] 42) = w1 at *
  obtain ⟨B, hB⟩ : ∃ B, Dg.isB root = B := ⟨_, rfl⟩
  refine (ris_same root B hB (by omega) w1).mono ?_
  rintro e w2 ⟨rfl, rfl⟩
  cases B with
  | false =>
    have E9 := hide (rlearn_bad (M := M) (V := V) (Or.inr (Or.inr (Or.inr (Or.inr hB))) : learnBad day count root))
    clear hB
    go_wp2
    go_ret
    exact ⟨ret_err (by have := E9.out; rw [HE.out] at this; injection this with this _; exact this.symm), hfin.out _ hx1 (by rw [E9.out])⟩
  | true =>
    have hok : ¬ learnBad day count root := fun h => by
      rcases h with h | h | h | h | h
      · omega
      · omega
      · omega
      · omega
      · rw [hB] at h; cases h
    have HOK := hide hok
    clear hok hB
    obtain ⟨G, hG⟩ : ∃ M, msgB day count root = M := ⟨_, rfl⟩
    have HG := hide hG
    have HVM := hide (show verifyB key G i sig path = V by rw [← hG]; exact HV.out)
    have HGZ := hide (show G.size ≤ 4611686018427387904 by rw [← hG, msgB_size]; decide)
    clear hG
    go_upto_region 3 with (fail)
    clear g1 g2 g3 g4
    try clear hc1
    try clear hc2
    refine wp_region_noPanic ?_
    refine wp_region_L (LR br key M A n c w.heap.size i A1 n1 e1 sig A2 n2 e2 path) 11 hmx ?_
    have hdr := (Below.refl w1.heap.size w1).drew
    have hS21 : (LR br key M A n c w.heap.size i A1 n1 e1 sig A2 n2 e2 path) w1.drew := hS1.below hdr
    have hb21 := bnext hx1 hdr
    clear hdr hS1 hx1
    generalize w1.drew = w21 at *
    refine wpAnyL_take (i := 0) (f0 := 13) (v := ?_) rfl (by decide +kernel) (by decide +kernel) (by decide +kernel) (by decide +kernel) (by decide +kernel) (fun _ _ _ h => h) (Or.inl ⟨by rfl, ?_⟩) hS21 ?_
    rotate_left
    · intro wS hS; go_simp; (try with_reducible rfl)
    simp only [Act.put, List.getElem_toArray, List.getElem_cons_zero, List.setIfInBounds_toArray, List.set_cons_succ, List.set_cons_zero]
    refine wpAnyL_take (i := 1) (f0 := 13) (v := ?_) rfl (by decide +kernel) (by decide +kernel) (by decide +kernel) (by decide +kernel) (by decide +kernel) (fun _ _ _ h => h) (Or.inl ⟨by rfl, ?_⟩) hS21 ?_
    rotate_left
    · intro wS hS; go_simp; (try with_reducible rfl)
    simp only [Act.put, List.getElem_toArray, List.getElem_cons_succ, List.getElem_cons_zero, List.setIfInBounds_toArray, List.set_cons_succ, List.set_cons_zero]
    refine wpAnyL_take (i := 2) (f0 := 13) (v := ?_) rfl (by decide +kernel) (by decide +kernel) (by decide +kernel) (by decide +kernel) (by decide +kernel) (fun _ _ _ h => h) (Or.inl ⟨by rfl, ?_⟩) hS21 ?_
    rotate_left
    · intro wS hS; go_simp; (try with_reducible rfl)
    simp only [Act.put, List.getElem_toArray, List.getElem_cons_succ, List.getElem_cons_zero, List.setIfInBounds_toArray, List.set_cons_succ, List.set_cons_zero]
    refine wpAnyL_take (i := 3) (f0 := 13) (v := ?_) rfl (by decide +kernel) (by decide +kernel) (by decide +kernel) (by decide +kernel) (by decide +kernel) (fun _ _ _ h => h) (Or.inl ⟨by rfl, ?_⟩) hS21 ?_
    rotate_left
    · intro wS hS; obtain ⟨q0, q1⟩ := jCells2' hS.rr.row; go_simp; (try with_reducible rfl)
    simp only [Act.put, List.getElem_toArray, List.getElem_cons_succ, List.getElem_cons_zero, List.setIfInBounds_toArray, List.set_cons_succ, List.set_cons_zero]
    refine wpAnyL_take (i := 4) (f0 := 13) (v := ?_) rfl (by decide +kernel) (by decide +kernel) (by decide +kernel) (by decide +kernel) (by decide +kernel) (fun _ _ _ h => h) (Or.inl ⟨by rfl, ?_⟩) hS21 ?_
    rotate_left
    · intro wS hS; go_simp; (try with_reducible rfl)
    simp only [Act.put, List.getElem_toArray, List.getElem_cons_succ, List.getElem_cons_zero, List.setIfInBounds_toArray, List.set_cons_succ, List.set_cons_zero]
    refine wpAnyL_take (i := 5) (f0 := 13) (v := ?_) rfl (by decide +kernel) (by decide +kernel) (by decide +kernel) (by decide +kernel) (by decide +kernel) (fun _ _ _ h => h) (Or.inl ⟨by rfl, ?_⟩) hS21 ?_
    rotate_left
    · intro wS hS; go_simp; (try with_reducible rfl)
    simp only [Act.put, List.getElem_toArray, List.getElem_cons_succ, List.getElem_cons_zero, List.setIfInBounds_toArray, List.set_cons_succ, List.set_cons_zero]
    refine wpAnyL_take (i := 6) (f0 := 13) (v := ?_) rfl (by decide +kernel) (by decide +kernel) (by decide +kernel) (by decide +kernel) (by decide +kernel) (fun _ _ _ h => h) (Or.inl ⟨by rfl, ?_⟩) hS21 ?_
    rotate_left
    · intro wS hS; go_simp; (try with_reducible rfl)
    simp only [Act.put, List.getElem_toArray, List.getElem_cons_succ, List.getElem_cons_zero, List.setIfInBounds_toArray, List.set_cons_succ, List.set_cons_zero]
    refine wpAnyL_take (i := 8) (f0 := 13) (v := ?_) rfl (by decide +kernel) (by decide +kernel) (by decide +kernel) (by decide +kernel) (by decide +kernel) (fun _ _ _ h => h) (Or.inl ⟨by rfl, ?_⟩) hS21 ?_
    rotate_left
    · intro wS hS; obtain ⟨y0, y1, y2⟩ := jCells3 hS.srow; go_simp; (try with_reducible rfl)
    simp only [Act.put, List.getElem_toArray, List.getElem_cons_succ, List.getElem_cons_zero, List.setIfInBounds_toArray, List.set_cons_succ, List.set_cons_zero]
    refine wpAnyL_one (i := 7) (by decide +kernel) (by rfl) (fun K hK => ?_)
    rw [if_pos (by rfl)]
    go_simp
    refine (rmsg_of day count root d0 d1 k0 k1 hr G HG.out w21).mono ?_
    rintro e w22 ⟨rfl, hx22⟩
    have hS22 : (LR br key M A n c w.heap.size i A1 n1 e1 sig A2 n2 e2 path) w22 := hS21.below hx22
    have hb22 := bnext hb21 hx22
    refine hK.out _ _ (Or.inr hS22) ?_
    clear hK K hS21 hb21 hx22
    try simp only [Act.put, List.getElem_toArray, List.getElem_cons_succ, List.getElem_cons_zero, List.setIfInBounds_toArray, List.set_cons_succ, List.set_cons_zero]
    refine wpAnyL_one (i := 9) (by decide +kernel) (by rfl) (fun K hK => ?_)
    rw [if_pos (by rfl)]
    go_simp
    refine (rverify_of key G i A1 A2 n1 n2 e1 e2 sig path w22 HGZ.out HL.out HZ.out hS22.sig HL2.out HZ2.out hS22.path he2 V HVM.out).mono ?_
    rintro e w23 ⟨rfl, hx23⟩
    have hS23 : (LR br key M A n c w.heap.size i A1 n1 e1 sig A2 n2 e2 path) w23 := hS22.below hx23
    have hb23 := bnext hb22 hx23
    refine hK.out _ _ (Or.inr hS23) ?_
    clear hK K hS22 hb22 hx23
    try simp only [Act.put, List.getElem_toArray, List.getElem_cons_succ, List.getElem_cons_zero, List.setIfInBounds_toArray, List.set_cons_succ, List.set_cons_zero]
    refine wpAnyL_take (i := 10) (f0 := 13) (v := ?_) rfl (by decide +kernel) (by decide +kernel) (by decide +kernel) (by decide +kernel) (by decide +kernel) (fun _ _ _ h => h) (Or.inl ⟨by rfl, ?_⟩) hS23 ?_
    rotate_left
    · intro wS hS; go_simp; (try with_reducible rfl)
    simp only [Act.put, List.getElem_toArray, List.getElem_cons_succ, List.getElem_cons_zero, List.setIfInBounds_toArray, List.set_cons_succ, List.set_cons_zero]
    refine wpAnyL_done (by decide +kernel) ?_ _
    refine NoPanic.normal ?_
    cases V with
    | false =>
      have E9 := hide (rlearn_key (M := M) HOK.out)
      go_wp2
      go_ret
      exact ⟨ret_err (by have := E9.out; rw [HE.out] at this; injection this with this _; exact this.symm), hfin.out _ hb23 (by rw [E9.out])⟩
    | true =>
      go_upto_region 6 with (fail)
      have hx5 := Below.news (Below.refl w23.heap.size w23) (.cells #[.int .i64 day, .int .i64 count, .string root] 97)
      have hS5 : LX w w23.heap.size day count root (w23.alloc (.cells #[.int .i64 day, .int .i64 count, .string root] 97)) := ⟨bnext hb23 hx5, heap_alloc_new _ _⟩
      clear hS23 hb23 hx5
      generalize w23.alloc (.cells #[.int .i64 day, .int .i64 count, .string root] 97) = w5 at *
      generalize w23.heap.size = b5 at *
      go_wp2
      go_loopw [12] (fun kv wr => ∃ k : Nat, k ≤ n ∧ kv = .int .i64 (k : Int) ∧ LX w b5 day count root wr ∧ Hid (∀ (j : Nat) (y : Dy), j < k → M[j]? = some y → y.1 < day)) (fun kv _ => n - (intOf kv).toNat)
      case atStart => exact ⟨0, by omega, rfl, hS5, fun j y hj => by omega⟩
      case round =>
        clear hS5
        obtain ⟨k, hk, rfl, hS, HLO⟩ := hrel
        obtain ⟨q0, q1⟩ := jCells2' (HRB.out _ hS.up).row
        have hk0 : (0 : Int) ≤ (k : Int) := by omega
        by_cases hlt : k < n
        · have hkl : k < M.length := by rw [HLEN.out]; exact hlt
          obtain ⟨b, off, rfl⟩ := (HRB.out _ hS.up).lis.some hkl
          have hkn : (k : Int) < (n : Int) := by omega
          obtain ⟨y, hy⟩ : ∃ y, M[k] = y := ⟨_, rfl⟩
          obtain ⟨c0, c1, c2⟩ := (HRB.out _ hS.up).lis.cells hkl y hy
          have HY := hide hy
          have HYO := hide (show M[k]? = some y by rw [List.getElem?_eq_getElem hkl, hy])
          clear hy
          by_cases hyd : y.1 < day
          · have HYD := hide hyd
            go_wp2
            go_roundw
            case rel => exact ⟨k + 1, by omega, by go_num, hS, fun j z hj hz => by
              by_cases e : j = k
              · subst e
                rw [HYO.out] at hz
                cases hz
                exact HYD.out
              · exact HLO.out j z (by omega) hz⟩
            case measure => simp [intOf]; omega
          · have HCN := hide (cntD_eq M day (k := k) (by omega) HLO.out (fun z hz => by rw [HYO.out] at hz; cases hz; exact hyd))
            by_cases hye : y.1 = day
            · have hbe : (y.1 == day) = true := beq_iff_eq.2 hye
              have HYE := hide hye
              have hneq : ∀ wx, (binOp .neq 97 (.agg #[.int .i64 y.1, .int .i64 y.2.1, .string y.2.2]) (.agg #[.int .i64 day, .int .i64 count, .string root])).run Tryz.prog wx = .ok (.bool (!((y.1 == day) && ((y.2.1 == count) && (y.2.2.toList == root.toList))))) wx := fun wx => learnt3_run wx y (day, count, root)
              obtain ⟨B, hB⟩ : ∃ B, ((y.1 == day) && ((y.2.1 == count) && (y.2.2.toList == root.toList))) = B := ⟨_, rfl⟩
              rw [hB] at hneq
              have HHIT := hide (rlearn_hit HOK.out (by rw [HCN.out]; exact HYO.out) hye)
              have HBE := hide (show B = true ↔ y = (day, count, root) by rw [← hB]; exact dy_eq (x := y) (y := (day, count, root)))
              have hqg : Tryz.prog.eqGuardType Tryz.prog.depth 97 = false := by kernel_rfl
              clear hye hB
              go_upto_region 10 with (fail)
              clear hbe c0 c1 c2 q0 q1 hyd
              refine wp_region_noPanic ?_
              refine wp_region_L (LX w b5 day count root) 9 hmx ?_
              have hdr := (Below.refl wr.heap.size wr).drew
              have hS41 : (LX w b5 day count root) wr.drew := hS.below hdr
              clear hdr hS
              generalize wr.drew = w41 at *
              refine wpAnyL_take (i := 0) (f0 := 11) (v := ?_) rfl (by decide +kernel) (by decide +kernel) (by decide +kernel) (by decide +kernel) (by decide +kernel) (fun _ _ _ h => h) (Or.inl ⟨by rfl, ?_⟩) hS41 ?_
              rotate_left
              · intro wS hS; go_simp; (try with_reducible rfl)
              simp only [Act.put, List.getElem_toArray, List.getElem_cons_zero, List.setIfInBounds_toArray, List.set_cons_succ, List.set_cons_zero]
              refine wpAnyL_take (i := 1) (f0 := 11) (v := ?_) rfl (by decide +kernel) (by decide +kernel) (by decide +kernel) (by decide +kernel) (by decide +kernel) (fun _ _ _ h => h) (Or.inl ⟨by rfl, ?_⟩) hS41 ?_
              rotate_left
              · intro wS hS; go_simp; (try with_reducible rfl)
              simp only [Act.put, List.getElem_toArray, List.getElem_cons_succ, List.getElem_cons_zero, List.setIfInBounds_toArray, List.set_cons_succ, List.set_cons_zero]
              refine wpAnyL_take (i := 2) (f0 := 11) (v := ?_) rfl (by decide +kernel) (by decide +kernel) (by decide +kernel) (by decide +kernel) (by decide +kernel) (fun _ _ _ h => h) (Or.inl ⟨by rfl, ?_⟩) hS41 ?_
              rotate_left
              · intro wS hS; go_simp; (try with_reducible rfl)
              simp only [Act.put, List.getElem_toArray, List.getElem_cons_succ, List.getElem_cons_zero, List.setIfInBounds_toArray, List.set_cons_succ, List.set_cons_zero]
              refine wpAnyL_take (i := 3) (f0 := 11) (v := ?_) rfl (by decide +kernel) (by decide +kernel) (by decide +kernel) (by decide +kernel) (by decide +kernel) (fun _ _ _ h => h) (Or.inl ⟨by rfl, ?_⟩) hS41 ?_
              rotate_left
              · intro wS hS; obtain ⟨q0, q1⟩ := jCells2' (HRB.out _ hS.up).row; go_simp; (try with_reducible rfl)
              simp only [Act.put, List.getElem_toArray, List.getElem_cons_succ, List.getElem_cons_zero, List.setIfInBounds_toArray, List.set_cons_succ, List.set_cons_zero]
              refine wpAnyL_take (i := 4) (f0 := 11) (v := ?_) rfl (by decide +kernel) (by decide +kernel) (by decide +kernel) (by decide +kernel) (by decide +kernel) (fun _ _ _ h => h) (Or.inl ⟨by rfl, ?_⟩) hS41 ?_
              rotate_left
              · intro wS hS; go_simp; (try with_reducible rfl)
              simp only [Act.put, List.getElem_toArray, List.getElem_cons_succ, List.getElem_cons_zero, List.setIfInBounds_toArray, List.set_cons_succ, List.set_cons_zero]
              refine wpAnyL_take (i := 5) (f0 := 11) (v := ?_) rfl (by decide +kernel) (by decide +kernel) (by decide +kernel) (by decide +kernel) (by decide +kernel) (fun _ _ _ h => h) (Or.inl ⟨by rfl, ?_⟩) hS41 ?_
              rotate_left
              · intro wS hS; go_simp; (try with_reducible rfl)
              simp only [Act.put, List.getElem_toArray, List.getElem_cons_succ, List.getElem_cons_zero, List.setIfInBounds_toArray, List.set_cons_succ, List.set_cons_zero]
              refine wpAnyL_take (i := 6) (f0 := 11) (v := ?_) rfl (by decide +kernel) (by decide +kernel) (by decide +kernel) (by decide +kernel) (by decide +kernel) (fun _ _ _ h => h) (Or.inl ⟨by rfl, ?_⟩) hS41 ?_
              rotate_left
              · intro wS hS; obtain ⟨c0, c1, c2⟩ := (HRB.out _ hS.up).lis.cells hkl y HY.out; go_simp; (try with_reducible rfl)
              simp only [Act.put, List.getElem_toArray, List.getElem_cons_succ, List.getElem_cons_zero, List.setIfInBounds_toArray, List.set_cons_succ, List.set_cons_zero]
              refine wpAnyL_take (i := 7) (f0 := 11) (v := ?_) rfl (by decide +kernel) (by decide +kernel) (by decide +kernel) (by decide +kernel) (by decide +kernel) (fun _ _ _ h => h) (Or.inl ⟨by rfl, ?_⟩) hS41 ?_
              rotate_left
              · intro wS hS; obtain ⟨x0, x1, x2⟩ := jCells3 hS.row; go_simp; (try with_reducible rfl)
              simp only [Act.put, List.getElem_toArray, List.getElem_cons_succ, List.getElem_cons_zero, List.setIfInBounds_toArray, List.set_cons_succ, List.set_cons_zero]
              refine wpAnyL_take (i := 8) (f0 := 11) (v := ?_) rfl (by decide +kernel) (by decide +kernel) (by decide +kernel) (by decide +kernel) (by decide +kernel) (fun _ _ _ h => h) (Or.inl ⟨by rfl, ?_⟩) hS41 ?_
              rotate_left
              · intro wS hS; go_simp; (try with_reducible rfl)
              simp only [Act.put, List.getElem_toArray, List.getElem_cons_succ, List.getElem_cons_zero, List.setIfInBounds_toArray, List.set_cons_succ, List.set_cons_zero]
              refine wpAnyL_done (by decide +kernel) ?_ _
              refine NoPanic.normal ?_
              cases B with
              | true =>
                have E9 := hide (show rlearnE M true day count root = (0, M) by rw [HHIT.out, if_pos (HBE.out.1 rfl)])
                go_wp2
                go_ret
                exact ⟨ret_err (by have := E9.out; rw [HE.out] at this; injection this with this _; exact this.symm), hfin.out _ hS41.up (by rw [E9.out])⟩
              | false =>
                have E9 := hide (show rlearnE M true day count root = (23, M) by rw [HHIT.out, if_neg fun e => by have := HBE.out.2 e; cases this])
                go_wp2
                go_ret
                exact ⟨ret_err (by have := E9.out; rw [HE.out] at this; injection this with this _; exact this.symm), hfin.out _ hS41.up (by rw [E9.out])⟩
            · have hbe : (y.1 == day) = false := beq_eq_false_iff_ne.2 hye
              have HNEW := hide (rlearn_new HOK.out (by rw [HCN.out]; intro z hz; rw [HYO.out] at hz; cases hz; exact hye))
              clear hye
              go_upto_region 13 with (fail)
              clear hbe c0 c1 c2 q0 q1 hyd
              have i1 : (k : Int) ≤ (n : Int) := by omega
              have i2 : (n : Int) ≤ (c : Int) := by have := HCAP.out; omega
              have i3 : (k : Int) ≤ (c : Int) := by omega
              refine wp_region_noPanic ?_
              refine wp_region_L (LX w b5 day count root) 8 hmx ?_
              have hdr := (Below.refl wr.heap.size wr).drew
              have hS61 : (LX w b5 day count root) wr.drew := hS.below hdr
              clear hdr hS
              generalize wr.drew = w61 at *
              refine wpAnyL_take (i := 0) (f0 := 12) (v := ?_) rfl (by decide +kernel) (by decide +kernel) (by decide +kernel) (by decide +kernel) (by decide +kernel) (fun _ _ _ h => h) (Or.inl ⟨by rfl, ?_⟩) hS61 ?_
              rotate_left
              · intro wS hS; obtain ⟨x0, x1, x2⟩ := jCells3 hS.row; go_simp; (try with_reducible rfl)
              simp only [Act.put, List.getElem_toArray, List.getElem_cons_zero, List.setIfInBounds_toArray, List.set_cons_succ, List.set_cons_zero]
              refine wpAnyL_take (i := 2) (f0 := 12) (v := ?_) rfl (by decide +kernel) (by decide +kernel) (by decide +kernel) (by decide +kernel) (by decide +kernel) (fun _ _ _ h => h) (Or.inl ⟨by rfl, ?_⟩) hS61 ?_
              rotate_left
              · intro wS hS; go_simp; (try with_reducible rfl)
              simp only [Act.put, List.getElem_toArray, List.getElem_cons_succ, List.getElem_cons_zero, List.setIfInBounds_toArray, List.set_cons_succ, List.set_cons_zero]
              refine wpAnyL_take (i := 3) (f0 := 12) (v := ?_) rfl (by decide +kernel) (by decide +kernel) (by decide +kernel) (by decide +kernel) (by decide +kernel) (fun _ _ _ h => h) (Or.inl ⟨by rfl, ?_⟩) hS61 ?_
              rotate_left
              · intro wS hS; go_simp; (try with_reducible rfl)
              simp only [Act.put, List.getElem_toArray, List.getElem_cons_succ, List.getElem_cons_zero, List.setIfInBounds_toArray, List.set_cons_succ, List.set_cons_zero]
              refine wpAnyL_take (i := 4) (f0 := 12) (v := ?_) rfl (by decide +kernel) (by decide +kernel) (by decide +kernel) (by decide +kernel) (by decide +kernel) (fun _ _ _ h => h) (Or.inl ⟨by rfl, ?_⟩) hS61 ?_
              rotate_left
              · intro wS hS; go_simp; (try with_reducible rfl)
              simp only [Act.put, List.getElem_toArray, List.getElem_cons_succ, List.getElem_cons_zero, List.setIfInBounds_toArray, List.set_cons_succ, List.set_cons_zero]
              refine wpAnyL_take (i := 5) (f0 := 12) (v := ?_) rfl (by decide +kernel) (by decide +kernel) (by decide +kernel) (by decide +kernel) (by decide +kernel) (fun _ _ _ h => h) (Or.inl ⟨by rfl, ?_⟩) hS61 ?_
              rotate_left
              · intro wS hS; obtain ⟨q0, q1⟩ := jCells2' (HRB.out _ hS.up).row; go_simp; (try with_reducible rfl)
              simp only [Act.put, List.getElem_toArray, List.getElem_cons_succ, List.getElem_cons_zero, List.setIfInBounds_toArray, List.set_cons_succ, List.set_cons_zero]
              refine wpAnyL_take (i := 6) (f0 := 12) (v := ?_) rfl (by decide +kernel) (by decide +kernel) (by decide +kernel) (by decide +kernel) (by decide +kernel) (fun _ _ _ h => h) (Or.inl ⟨by rfl, ?_⟩) hS61 ?_
              rotate_left
              · intro wS hS; go_simp; (try with_reducible rfl)
              simp only [Act.put, List.getElem_toArray, List.getElem_cons_succ, List.getElem_cons_zero, List.setIfInBounds_toArray, List.set_cons_succ, List.set_cons_zero]
              refine wpAnyL_take (i := 7) (f0 := 12) (v := ?_) rfl (by decide +kernel) (by decide +kernel) (by decide +kernel) (by decide +kernel) (by decide +kernel) (fun _ _ _ h => h) (Or.inl ⟨by rfl, ?_⟩) hS61 ?_
              rotate_left
              · intro wS hS; go_simp; (try with_reducible rfl)
              simp only [Act.put, List.getElem_toArray, List.getElem_cons_succ, List.getElem_cons_zero, List.setIfInBounds_toArray, List.set_cons_succ, List.set_cons_zero]
              refine wpAnyL_one (i := 1) (by decide +kernel) (by rfl) (fun K hK => ?_)
              rw [if_pos (by rfl)]
              go_simp
              have hx6 := Below.news (Below.refl w61.heap.size w61) (.cells #[.int .i64 day, .int .i64 count, .string root] 97)
              have hO6 := OwnDy.lit w61 w.heap.size hS61.up.size [(day, count, root)] 1 rfl (by decide) #[.int .i64 day, .int .i64 count, .string root] rfl
              have hS6 : (LX w b5 day count root) (w61.alloc (.cells #[.int .i64 day, .int .i64 count, .string root] 97)) := hS61.below hx6
              refine hK.out _ _ (Or.inr hS6) ?_
              clear hK K hx6 hS61
              try simp only [Act.put, List.getElem_toArray, List.getElem_cons_succ, List.getElem_cons_zero, List.setIfInBounds_toArray, List.set_cons_succ, List.set_cons_zero]
              generalize w61.alloc (.cells #[.int .i64 day, .int .i64 count, .string root] 97) = w6 at *
              generalize w61.heap.size = b6 at *
              refine wpAnyL_one (i := 8) (by decide +kernel) (by rfl) (fun K hK => ?_)
              rw [if_pos (by rfl)]
              have hsd := src_dropD (HRB.out _ hS6.up).lis c k (by rw [HLEN.out]; exact HCAP.out)
              generalize (if c = k then some (⟨b, off, none⟩ : Addr) else some ⟨b, off + k * 3, none⟩) = AD at hsd ⊢
              refine wp_dy (.tmp 102) (.tmp 108) rfl w.heap.size _ [(day, count, root)] (M.drop k) rfl hO6 AD (n - k) (c - k) rfl (by rw [List.length_drop, HLEN.out]) hsd (by rw [List.length_singleton]; omega) hS6.up.size ?_
              intro v8 w8 hO8 hx8 hg8
              have hb8 := hS6.up.trans hx8
              refine hK.out _ _ (Or.inl (by decide +kernel)) ?_
              clear hK K hS6 hO6 hx8 hg8 hsd
              try simp only [Act.put, List.getElem_toArray, List.getElem_cons_succ, List.getElem_cons_zero, List.setIfInBounds_toArray, List.set_cons_succ, List.set_cons_zero]
              refine wpAnyL_one (i := 9) (by decide +kernel) (by rfl) (fun K hK => ?_)
              rw [if_pos (by rfl)]
              go_simp
              refine hK.out _ _ (Or.inl (by decide +kernel)) ?_
              clear hK K
              try simp only [Act.put, List.getElem_toArray, List.getElem_cons_succ, List.getElem_cons_zero, List.setIfInBounds_toArray, List.set_cons_succ, List.set_cons_zero]
              refine wpAnyL_done (by decide +kernel) ?_ _
              refine NoPanic.normal ?_
              obtain ⟨M8, hM8⟩ : ∃ M8, ([(day, count, root)] : List Dy) ++ M.drop k = M8 := ⟨_, rfl⟩
              rw [hM8] at hO8
              have HM8 := hide hM8
              obtain ⟨g8, c8, rfl, hc8, hg8, hd8⟩ := hO8.sl (by rw [← hM8]; simp)
              have hm8 : M8.length ≤ 1048577 := by
                rw [← hM8, List.length_append, List.length_drop, HLEN.out, List.length_singleton]
                omega
              clear hM8
              have hx9 := Below.news (Below.refl w8.heap.size w8) (.cells #[] 97)
              have hO9 := OwnDy.lit w8 w8.heap.size (Nat.le_refl _) [] 0 rfl (by decide) #[] rfl
              have hb9 := bnext hb8 hx9
              have HB8 := hide hb8; have HD8 := hide hd8
              have hd9 := hd8.keep hx9
              have hR9 := HRB.out _ hb9
              obtain ⟨q0, q1⟩ := jCells2' hR9.row
              have HX9 := hide hx9; have HB9 := hide hb9; have HD9 := hide hd9; have HO9 := hide hO9
              clear hx9 hb9 hd9 hO9 hO8 hd8
              go_upto_region 15 with (at_builtin; first
                | (refine step_dy rfl (.tmp 111) (.tmp 117) rfl w8.heap.size _ [] (M.take k) rfl HO9.out (some ⟨b, off, none⟩) k c rfl (by rw [List.length_take, HLEN.out]; omega) (hR9.lis.take k).src (by simp only [List.length_nil]; omega) HX9.out.size ?_
                   intro v10 w10 hO10 hx10 hg10
                   have HX10 := hide hx10
                   have hR10 := HRB.out _ (HB9.out.trans (hx10.mono HB8.out.size))
                   obtain ⟨q0, q1⟩ := jCells2' hR10.row
                   clear hx10 hg10 hR10)
                | (refine step_dy rfl (.tmp 118) (.tmp 119) rfl w8.heap.size _ _ M8 rfl hO10 (some ⟨g8, 0, none⟩) _ c8 rfl rfl ((HD8.out.below (HX9.out.trans HX10.out)).src) (by rw [List.nil_append, List.length_take, HLEN.out]; omega) (HX9.out.trans HX10.out).size ?_
                   intro v11 w11 hO11 hx11 hg11
                   have HX11 := hide hx11
                   have hR11 := HRB.out _ (HB8.out.trans ((HX9.out.trans (HX10.out.trans hx11)).mono HB8.out.size))
                   obtain ⟨q0, q1⟩ := jCells2' hR11.row
                   have ff := frozen_of_row _ _ 1 _ _ hR11.row
                   obtain ⟨M11, hM11⟩ : ∃ M11, ([] ++ M.take k) ++ M8 = M11 := ⟨_, rfl⟩
                   rw [hM11] at hO11
                   have HM11 := hide hM11
                   obtain ⟨g11, c11, rfl, hc11, _, hd11⟩ := hO11.sl (by have h9 := congrArg List.length HM8.out; rw [List.length_append, List.length_singleton] at h9; rw [← hM11, List.length_append]; omega)
                   clear hM11))
              obtain ⟨hf1, hf2⟩ := learn_end (HB8.out.trans ((HX9.out.trans (HX10.out.trans HX11.out)).mono HB8.out.size)) hR11 hd11 hc11
              have hML : M' = M11 := by
                have h1 := HNEW.out
                rw [HE.out] at h1
                injection h1 with _ h1
                rw [h1, insD_eq, ← HM11.out, ← HM8.out]
                show M.take (cntD M day) ++ (day, count, root) :: M.drop (cntD M day) = _
                rw [HCN.out]
                rfl
              have hE0 : E = 0 := by
                have h1 := HNEW.out
                rw [HE.out] at h1
                injection h1
              rw [← hML] at hf1 hf2 ⊢
              subst hE0
              clear ff q0 q1 hR11 hd11 hO11 hO10
              generalize World.setCell _ _ _ = w12 at *
              go_wp2
              go_ret
              exact ⟨rfl, ⟨_, _, _, hf1⟩, hf2⟩
        · obtain rfl : n = k := by omega
          have HCN := hide (cntD_eq M day (k := n) (by rw [HLEN.out]; exact Nat.le_refl _) HLO.out (fun z hz => by
            have := (List.getElem?_eq_some_iff.1 hz).1
            rw [HLEN.out] at this
            omega))
          have HNEW := hide (rlearn_new HOK.out (by
            rw [HCN.out]
            intro z hz
            have := (List.getElem?_eq_some_iff.1 hz).1
            rw [HLEN.out] at this
            omega))
          rcases hsl with ⟨rfl, rfl⟩ | ⟨b, off, rfl⟩
          · obtain rfl : n = 0 := by have := HCAP.out; omega
            go_upto_region 13 with (fail)
            clear q0 q1
            refine wp_region_noPanic ?_
            refine wp_region_L (LX w b5 day count root) 8 hmx ?_
            have hdr := (Below.refl wr.heap.size wr).drew
            have hS101 : (LX w b5 day count root) wr.drew := hS.below hdr
            clear hdr hS
            generalize wr.drew = w101 at *
            refine wpAnyL_take (i := 0) (f0 := 12) (v := ?_) rfl (by decide +kernel) (by decide +kernel) (by decide +kernel) (by decide +kernel) (by decide +kernel) (fun _ _ _ h => h) (Or.inl ⟨by rfl, ?_⟩) hS101 ?_
            rotate_left
            · intro wS hS; obtain ⟨x0, x1, x2⟩ := jCells3 hS.row; go_simp; (try with_reducible rfl)
            simp only [Act.put, List.getElem_toArray, List.getElem_cons_zero, List.setIfInBounds_toArray, List.set_cons_succ, List.set_cons_zero]
            refine wpAnyL_take (i := 2) (f0 := 12) (v := ?_) rfl (by decide +kernel) (by decide +kernel) (by decide +kernel) (by decide +kernel) (by decide +kernel) (fun _ _ _ h => h) (Or.inl ⟨by rfl, ?_⟩) hS101 ?_
            rotate_left
            · intro wS hS; go_simp; (try with_reducible rfl)
            simp only [Act.put, List.getElem_toArray, List.getElem_cons_succ, List.getElem_cons_zero, List.setIfInBounds_toArray, List.set_cons_succ, List.set_cons_zero]
            refine wpAnyL_take (i := 3) (f0 := 12) (v := ?_) rfl (by decide +kernel) (by decide +kernel) (by decide +kernel) (by decide +kernel) (by decide +kernel) (fun _ _ _ h => h) (Or.inl ⟨by rfl, ?_⟩) hS101 ?_
            rotate_left
            · intro wS hS; go_simp; (try with_reducible rfl)
            simp only [Act.put, List.getElem_toArray, List.getElem_cons_succ, List.getElem_cons_zero, List.setIfInBounds_toArray, List.set_cons_succ, List.set_cons_zero]
            refine wpAnyL_take (i := 4) (f0 := 12) (v := ?_) rfl (by decide +kernel) (by decide +kernel) (by decide +kernel) (by decide +kernel) (by decide +kernel) (fun _ _ _ h => h) (Or.inl ⟨by rfl, ?_⟩) hS101 ?_
            rotate_left
            · intro wS hS; go_simp; (try with_reducible rfl)
            simp only [Act.put, List.getElem_toArray, List.getElem_cons_succ, List.getElem_cons_zero, List.setIfInBounds_toArray, List.set_cons_succ, List.set_cons_zero]
            refine wpAnyL_take (i := 5) (f0 := 12) (v := ?_) rfl (by decide +kernel) (by decide +kernel) (by decide +kernel) (by decide +kernel) (by decide +kernel) (fun _ _ _ h => h) (Or.inl ⟨by rfl, ?_⟩) hS101 ?_
            rotate_left
            · intro wS hS; obtain ⟨q0, q1⟩ := jCells2' (HRB.out _ hS.up).row; go_simp; (try with_reducible rfl)
            simp only [Act.put, List.getElem_toArray, List.getElem_cons_succ, List.getElem_cons_zero, List.setIfInBounds_toArray, List.set_cons_succ, List.set_cons_zero]
            refine wpAnyL_take (i := 6) (f0 := 12) (v := ?_) rfl (by decide +kernel) (by decide +kernel) (by decide +kernel) (by decide +kernel) (by decide +kernel) (fun _ _ _ h => h) (Or.inl ⟨by rfl, ?_⟩) hS101 ?_
            rotate_left
            · intro wS hS; go_simp; (try with_reducible rfl)
            simp only [Act.put, List.getElem_toArray, List.getElem_cons_succ, List.getElem_cons_zero, List.setIfInBounds_toArray, List.set_cons_succ, List.set_cons_zero]
            refine wpAnyL_take (i := 7) (f0 := 12) (v := ?_) rfl (by decide +kernel) (by decide +kernel) (by decide +kernel) (by decide +kernel) (by decide +kernel) (fun _ _ _ h => h) (Or.inl ⟨by rfl, ?_⟩) hS101 ?_
            rotate_left
            · intro wS hS; go_simp; (try with_reducible rfl)
            simp only [Act.put, List.getElem_toArray, List.getElem_cons_succ, List.getElem_cons_zero, List.setIfInBounds_toArray, List.set_cons_succ, List.set_cons_zero]
            refine wpAnyL_one (i := 1) (by decide +kernel) (by rfl) (fun K hK => ?_)
            rw [if_pos (by rfl)]
            go_simp
            have hx6 := Below.news (Below.refl w101.heap.size w101) (.cells #[.int .i64 day, .int .i64 count, .string root] 97)
            have hO6 := OwnDy.lit w101 w.heap.size hS101.up.size [(day, count, root)] 1 rfl (by decide) #[.int .i64 day, .int .i64 count, .string root] rfl
            have hS6 : (LX w b5 day count root) (w101.alloc (.cells #[.int .i64 day, .int .i64 count, .string root] 97)) := hS101.below hx6
            refine hK.out _ _ (Or.inr hS6) ?_
            clear hK K hx6 hS101
            try simp only [Act.put, List.getElem_toArray, List.getElem_cons_succ, List.getElem_cons_zero, List.setIfInBounds_toArray, List.set_cons_succ, List.set_cons_zero]
            generalize w101.alloc (.cells #[.int .i64 day, .int .i64 count, .string root] 97) = w6 at *
            generalize w101.heap.size = b6 at *
            refine wpAnyL_one (i := 8) (by decide +kernel) (by rfl) (fun K hK => ?_)
            rw [if_pos (by rfl)]
            have hsd : SrcD w6 none (M.drop 0) := Or.inl (by rw [List.drop_zero]; exact List.length_eq_zero_iff.1 HLEN.out)
            refine wp_dy (.tmp 102) (.tmp 108) rfl w.heap.size _ [(day, count, root)] (M.drop 0) rfl hO6 none 0 0 rfl (by rw [List.length_drop, HLEN.out]) hsd (by simp) hS6.up.size ?_
            intro v8 w8 hO8 hx8 hg8
            have hb8 := hS6.up.trans hx8
            refine hK.out _ _ (Or.inl (by decide +kernel)) ?_
            clear hK K hS6 hO6 hx8 hg8 hsd
            try simp only [Act.put, List.getElem_toArray, List.getElem_cons_succ, List.getElem_cons_zero, List.setIfInBounds_toArray, List.set_cons_succ, List.set_cons_zero]
            refine wpAnyL_one (i := 9) (by decide +kernel) (by rfl) (fun K hK => ?_)
            rw [if_pos (by rfl)]
            go_simp
            refine hK.out _ _ (Or.inl (by decide +kernel)) ?_
            clear hK K
            try simp only [Act.put, List.getElem_toArray, List.getElem_cons_succ, List.getElem_cons_zero, List.setIfInBounds_toArray, List.set_cons_succ, List.set_cons_zero]
            refine wpAnyL_done (by decide +kernel) ?_ _
            refine NoPanic.normal ?_
            obtain ⟨M8, hM8⟩ : ∃ M8, ([(day, count, root)] : List Dy) ++ M.drop 0 = M8 := ⟨_, rfl⟩
            rw [hM8] at hO8
            have HM8 := hide hM8
            obtain ⟨g8, c8, rfl, hc8, hg8, hd8⟩ := hO8.sl (by rw [← hM8]; simp)
            have hm8 : M8.length ≤ 1048577 := by
              rw [← hM8, List.length_append, List.length_drop, HLEN.out, List.length_singleton]
              omega
            clear hM8
            have hx9 := Below.news (Below.refl w8.heap.size w8) (.cells #[] 97)
            have hO9 := OwnDy.lit w8 w8.heap.size (Nat.le_refl _) [] 0 rfl (by decide) #[] rfl
            have hb9 := bnext hb8 hx9
            have HB8 := hide hb8; have HD8 := hide hd8
            have hd9 := hd8.keep hx9
            have hR9 := HRB.out _ hb9
            obtain ⟨q0, q1⟩ := jCells2' hR9.row
            have HX9 := hide hx9; have HB9 := hide hb9; have HD9 := hide hd9; have HO9 := hide hO9
            clear hx9 hb9 hd9 hO9 hO8 hd8
            go_upto_region 15 with (at_builtin; first
              | (refine step_dy rfl (.tmp 111) (.tmp 117) rfl w8.heap.size _ [] (M.take 0) rfl HO9.out none 0 0 rfl (by rw [List.length_take]; omega) (Or.inl (by rw [List.take_zero])) (by simp only [List.length_nil]; omega) HX9.out.size ?_
                 intro v10 w10 hO10 hx10 hg10
                 have HX10 := hide hx10
                 have hR10 := HRB.out _ (HB9.out.trans (hx10.mono HB8.out.size))
                 obtain ⟨q0, q1⟩ := jCells2' hR10.row
                 clear hx10 hg10 hR10)
              | (refine step_dy rfl (.tmp 118) (.tmp 119) rfl w8.heap.size _ _ M8 rfl hO10 (some ⟨g8, 0, none⟩) _ c8 rfl rfl ((HD8.out.below (HX9.out.trans HX10.out)).src) (by rw [List.nil_append, List.length_take, HLEN.out]; omega) (HX9.out.trans HX10.out).size ?_
                 intro v11 w11 hO11 hx11 hg11
                 have HX11 := hide hx11
                 have hR11 := HRB.out _ (HB8.out.trans ((HX9.out.trans (HX10.out.trans hx11)).mono HB8.out.size))
                 obtain ⟨q0, q1⟩ := jCells2' hR11.row
                 have ff := frozen_of_row _ _ 1 _ _ hR11.row
                 obtain ⟨M11, hM11⟩ : ∃ M11, ([] ++ M.take 0) ++ M8 = M11 := ⟨_, rfl⟩
                 rw [hM11] at hO11
                 have HM11 := hide hM11
                 obtain ⟨g11, c11, rfl, hc11, _, hd11⟩ := hO11.sl (by have h9 := congrArg List.length HM8.out; rw [List.length_append, List.length_singleton] at h9; rw [← hM11, List.length_append]; omega)
                 clear hM11))
            obtain ⟨hf1, hf2⟩ := learn_end (HB8.out.trans ((HX9.out.trans (HX10.out.trans HX11.out)).mono HB8.out.size)) hR11 hd11 hc11
            have hML : M' = M11 := by
              have h1 := HNEW.out
              rw [HE.out] at h1
              injection h1 with _ h1
              rw [h1, insD_eq, ← HM11.out, ← HM8.out]
              show M.take (cntD M day) ++ (day, count, root) :: M.drop (cntD M day) = _
              rw [HCN.out]
              rfl
            have hE0 : E = 0 := by
              have h1 := HNEW.out
              rw [HE.out] at h1
              injection h1
            rw [← hML] at hf1 hf2 ⊢
            subst hE0
            clear ff q0 q1 hR11 hd11 hO11 hO10
            generalize World.setCell _ _ _ = w12 at *
            go_wp2
            go_ret
            exact ⟨rfl, ⟨_, _, _, hf1⟩, hf2⟩
          · go_upto_region 13 with (fail)
            clear q0 q1
            have i1 : (n : Int) ≤ (n : Int) := by omega
            have i2 : (n : Int) ≤ (c : Int) := by have := HCAP.out; omega
            have i3 : (n : Int) ≤ (c : Int) := by omega
            refine wp_region_noPanic ?_
            refine wp_region_L (LX w b5 day count root) 8 hmx ?_
            have hdr := (Below.refl wr.heap.size wr).drew
            have hS81 : (LX w b5 day count root) wr.drew := hS.below hdr
            clear hdr hS
            generalize wr.drew = w81 at *
            refine wpAnyL_take (i := 0) (f0 := 12) (v := ?_) rfl (by decide +kernel) (by decide +kernel) (by decide +kernel) (by decide +kernel) (by decide +kernel) (fun _ _ _ h => h) (Or.inl ⟨by rfl, ?_⟩) hS81 ?_
            rotate_left
            · intro wS hS; obtain ⟨x0, x1, x2⟩ := jCells3 hS.row; go_simp; (try with_reducible rfl)
            simp only [Act.put, List.getElem_toArray, List.getElem_cons_zero, List.setIfInBounds_toArray, List.set_cons_succ, List.set_cons_zero]
            refine wpAnyL_take (i := 2) (f0 := 12) (v := ?_) rfl (by decide +kernel) (by decide +kernel) (by decide +kernel) (by decide +kernel) (by decide +kernel) (fun _ _ _ h => h) (Or.inl ⟨by rfl, ?_⟩) hS81 ?_
            rotate_left
            · intro wS hS; go_simp; (try with_reducible rfl)
            simp only [Act.put, List.getElem_toArray, List.getElem_cons_succ, List.getElem_cons_zero, List.setIfInBounds_toArray, List.set_cons_succ, List.set_cons_zero]
            refine wpAnyL_take (i := 3) (f0 := 12) (v := ?_) rfl (by decide +kernel) (by decide +kernel) (by decide +kernel) (by decide +kernel) (by decide +kernel) (fun _ _ _ h => h) (Or.inl ⟨by rfl, ?_⟩) hS81 ?_
            rotate_left
            · intro wS hS; go_simp; (try with_reducible rfl)
            simp only [Act.put, List.getElem_toArray, List.getElem_cons_succ, List.getElem_cons_zero, List.setIfInBounds_toArray, List.set_cons_succ, List.set_cons_zero]
            refine wpAnyL_take (i := 4) (f0 := 12) (v := ?_) rfl (by decide +kernel) (by decide +kernel) (by decide +kernel) (by decide +kernel) (by decide +kernel) (fun _ _ _ h => h) (Or.inl ⟨by rfl, ?_⟩) hS81 ?_
            rotate_left
            · intro wS hS; go_simp; (try with_reducible rfl)
            simp only [Act.put, List.getElem_toArray, List.getElem_cons_succ, List.getElem_cons_zero, List.setIfInBounds_toArray, List.set_cons_succ, List.set_cons_zero]
            refine wpAnyL_take (i := 5) (f0 := 12) (v := ?_) rfl (by decide +kernel) (by decide +kernel) (by decide +kernel) (by decide +kernel) (by decide +kernel) (fun _ _ _ h => h) (Or.inl ⟨by rfl, ?_⟩) hS81 ?_
            rotate_left
            · intro wS hS; obtain ⟨q0, q1⟩ := jCells2' (HRB.out _ hS.up).row; go_simp; (try with_reducible rfl)
            simp only [Act.put, List.getElem_toArray, List.getElem_cons_succ, List.getElem_cons_zero, List.setIfInBounds_toArray, List.set_cons_succ, List.set_cons_zero]
            refine wpAnyL_take (i := 6) (f0 := 12) (v := ?_) rfl (by decide +kernel) (by decide +kernel) (by decide +kernel) (by decide +kernel) (by decide +kernel) (fun _ _ _ h => h) (Or.inl ⟨by rfl, ?_⟩) hS81 ?_
            rotate_left
            · intro wS hS; go_simp; (try with_reducible rfl)
            simp only [Act.put, List.getElem_toArray, List.getElem_cons_succ, List.getElem_cons_zero, List.setIfInBounds_toArray, List.set_cons_succ, List.set_cons_zero]
            refine wpAnyL_take (i := 7) (f0 := 12) (v := ?_) rfl (by decide +kernel) (by decide +kernel) (by decide +kernel) (by decide +kernel) (by decide +kernel) (fun _ _ _ h => h) (Or.inl ⟨by rfl, ?_⟩) hS81 ?_
            rotate_left
            · intro wS hS; go_simp; (try with_reducible rfl)
            simp only [Act.put, List.getElem_toArray, List.getElem_cons_succ, List.getElem_cons_zero, List.setIfInBounds_toArray, List.set_cons_succ, List.set_cons_zero]
            refine wpAnyL_one (i := 1) (by decide +kernel) (by rfl) (fun K hK => ?_)
            rw [if_pos (by rfl)]
            go_simp
            have hx6 := Below.news (Below.refl w81.heap.size w81) (.cells #[.int .i64 day, .int .i64 count, .string root] 97)
            have hO6 := OwnDy.lit w81 w.heap.size hS81.up.size [(day, count, root)] 1 rfl (by decide) #[.int .i64 day, .int .i64 count, .string root] rfl
            have hS6 : (LX w b5 day count root) (w81.alloc (.cells #[.int .i64 day, .int .i64 count, .string root] 97)) := hS81.below hx6
            refine hK.out _ _ (Or.inr hS6) ?_
            clear hK K hx6 hS81
            try simp only [Act.put, List.getElem_toArray, List.getElem_cons_succ, List.getElem_cons_zero, List.setIfInBounds_toArray, List.set_cons_succ, List.set_cons_zero]
            generalize w81.alloc (.cells #[.int .i64 day, .int .i64 count, .string root] 97) = w6 at *
            generalize w81.heap.size = b6 at *
            refine wpAnyL_one (i := 8) (by decide +kernel) (by rfl) (fun K hK => ?_)
            rw [if_pos (by rfl)]
            have hsd := src_dropD (HRB.out _ hS6.up).lis c n (by rw [HLEN.out]; exact HCAP.out)
            generalize (if c = n then some (⟨b, off, none⟩ : Addr) else some ⟨b, off + n * 3, none⟩) = AD at hsd ⊢
            refine wp_dy (.tmp 102) (.tmp 108) rfl w.heap.size _ [(day, count, root)] (M.drop n) rfl hO6 AD (0) (c - n) rfl (by rw [List.length_drop, HLEN.out]; exact Nat.sub_self _) hsd (by rw [List.length_singleton]; omega) hS6.up.size ?_
            intro v8 w8 hO8 hx8 hg8
            have hb8 := hS6.up.trans hx8
            refine hK.out _ _ (Or.inl (by decide +kernel)) ?_
            clear hK K hS6 hO6 hx8 hg8 hsd
            try simp only [Act.put, List.getElem_toArray, List.getElem_cons_succ, List.getElem_cons_zero, List.setIfInBounds_toArray, List.set_cons_succ, List.set_cons_zero]
            refine wpAnyL_one (i := 9) (by decide +kernel) (by rfl) (fun K hK => ?_)
            rw [if_pos (by rfl)]
            go_simp
            refine hK.out _ _ (Or.inl (by decide +kernel)) ?_
            clear hK K
            try simp only [Act.put, List.getElem_toArray, List.getElem_cons_succ, List.getElem_cons_zero, List.setIfInBounds_toArray, List.set_cons_succ, List.set_cons_zero]
            refine wpAnyL_done (by decide +kernel) ?_ _
            refine NoPanic.normal ?_
            obtain ⟨M8, hM8⟩ : ∃ M8, ([(day, count, root)] : List Dy) ++ M.drop n = M8 := ⟨_, rfl⟩
            rw [hM8] at hO8
            have HM8 := hide hM8
            obtain ⟨g8, c8, rfl, hc8, hg8, hd8⟩ := hO8.sl (by rw [← hM8]; simp)
            have hm8 : M8.length ≤ 1048577 := by
              rw [← hM8, List.length_append, List.length_drop, HLEN.out, List.length_singleton]
              omega
            clear hM8
            have hx9 := Below.news (Below.refl w8.heap.size w8) (.cells #[] 97)
            have hO9 := OwnDy.lit w8 w8.heap.size (Nat.le_refl _) [] 0 rfl (by decide) #[] rfl
            have hb9 := bnext hb8 hx9
            have HB8 := hide hb8; have HD8 := hide hd8
            have hd9 := hd8.keep hx9
            have hR9 := HRB.out _ hb9
            obtain ⟨q0, q1⟩ := jCells2' hR9.row
            have HX9 := hide hx9; have HB9 := hide hb9; have HD9 := hide hd9; have HO9 := hide hO9
            clear hx9 hb9 hd9 hO9 hO8 hd8
            go_upto_region 15 with (at_builtin; first
              | (refine step_dy rfl (.tmp 111) (.tmp 117) rfl w8.heap.size _ [] (M.take n) rfl HO9.out (some ⟨b, off, none⟩) n c rfl (by rw [List.length_take, HLEN.out]; omega) (hR9.lis.take n).src (by simp only [List.length_nil]; omega) HX9.out.size ?_
                 intro v10 w10 hO10 hx10 hg10
                 have HX10 := hide hx10
                 have hR10 := HRB.out _ (HB9.out.trans (hx10.mono HB8.out.size))
                 obtain ⟨q0, q1⟩ := jCells2' hR10.row
                 clear hx10 hg10 hR10)
              | (refine step_dy rfl (.tmp 118) (.tmp 119) rfl w8.heap.size _ _ M8 rfl hO10 (some ⟨g8, 0, none⟩) _ c8 rfl rfl ((HD8.out.below (HX9.out.trans HX10.out)).src) (by rw [List.nil_append, List.length_take, HLEN.out]; omega) (HX9.out.trans HX10.out).size ?_
                 intro v11 w11 hO11 hx11 hg11
                 have HX11 := hide hx11
                 have hR11 := HRB.out _ (HB8.out.trans ((HX9.out.trans (HX10.out.trans hx11)).mono HB8.out.size))
                 obtain ⟨q0, q1⟩ := jCells2' hR11.row
                 have ff := frozen_of_row _ _ 1 _ _ hR11.row
                 obtain ⟨M11, hM11⟩ : ∃ M11, ([] ++ M.take n) ++ M8 = M11 := ⟨_, rfl⟩
                 rw [hM11] at hO11
                 have HM11 := hide hM11
                 obtain ⟨g11, c11, rfl, hc11, _, hd11⟩ := hO11.sl (by have h9 := congrArg List.length HM8.out; rw [List.length_append, List.length_singleton] at h9; rw [← hM11, List.length_append]; omega)
                 clear hM11))
            obtain ⟨hf1, hf2⟩ := learn_end (HB8.out.trans ((HX9.out.trans (HX10.out.trans HX11.out)).mono HB8.out.size)) hR11 hd11 hc11
            have hML : M' = M11 := by
              have h1 := HNEW.out
              rw [HE.out] at h1
              injection h1 with _ h1
              rw [h1, insD_eq, ← HM11.out, ← HM8.out]
              show M.take (cntD M day) ++ (day, count, root) :: M.drop (cntD M day) = _
              rw [HCN.out]
              rfl
            have hE0 : E = 0 := by
              have h1 := HNEW.out
              rw [HE.out] at h1
              injection h1
            rw [← hML] at hf1 hf2 ⊢
            subst hE0
            clear ff q0 q1 hR11 hd11 hO11 hO10
            generalize World.setCell _ _ _ = w12 at *
            go_wp2
            go_ret
            exact ⟨rfl, ⟨_, _, _, hf1⟩, hf2⟩
end Go.Proofs.YtobhpeockinnjaaGreatDoor
/- The reference's Make and Same. No conditions but those that each theorem states. -/
namespace Go.Proofs.YtobhpeockinnjaaGreatDoor
open Go Go.RowKit Go.Sort Go.Maps
/-- Seven cells written. -/
def set7 (X : World) (g : Nat) (v2 v3 v4 v5 v6 v7 v8 : Value) : World := ((((((X.setCell ⟨g, 2, none⟩ v2).setCell ⟨g, 3, none⟩ v3).setCell ⟨g, 4, none⟩ v4).setCell ⟨g, 5, none⟩ v5).setCell ⟨g, 6, none⟩ v6).setCell ⟨g, 7, none⟩ v7).setCell ⟨g, 8, none⟩ v8
theorem set7_row {X : World} {g : Nat} {a0 a1 a2 a3 a4 a5 a6 a7 a8 a9 : Value} {T : TypeId} (h : X.heap[g]? = some (.cells #[a0, a1, a2, a3, a4, a5, a6, a7, a8, a9] T (0, 0))) (v2 v3 v4 v5 v6 v7 v8 : Value) : (set7 X g v2 v3 v4 v5 v6 v7 v8).heap[g]? = some (.cells #[a0, a1, v2, v3, v4, v5, v6, v7, v8, a9] T (0, 0)) := by
  have h2 := setCell_rowN h 2 v2
  simp only [List.setIfInBounds_toArray, List.set_cons_zero, List.set_cons_succ] at h2
  have h3 := setCell_rowN h2 3 v3
  simp only [List.setIfInBounds_toArray, List.set_cons_zero, List.set_cons_succ] at h3
  have h4 := setCell_rowN h3 4 v4
  simp only [List.setIfInBounds_toArray, List.set_cons_zero, List.set_cons_succ] at h4
  have h5 := setCell_rowN h4 5 v5
  simp only [List.setIfInBounds_toArray, List.set_cons_zero, List.set_cons_succ] at h5
  have h6 := setCell_rowN h5 6 v6
  simp only [List.setIfInBounds_toArray, List.set_cons_zero, List.set_cons_succ] at h6
  have h7 := setCell_rowN h6 7 v7
  simp only [List.setIfInBounds_toArray, List.set_cons_zero, List.set_cons_succ] at h7
  have h8 := setCell_rowN h7 8 v8
  simp only [List.setIfInBounds_toArray, List.set_cons_zero, List.set_cons_succ] at h8
  unfold set7
  exact h8
theorem set7_off {X : World} {g k : Nat} (h : k ≠ g) (v2 v3 v4 v5 v6 v7 v8 : Value) : (set7 X g v2 v3 v4 v5 v6 v7 v8).heap[k]? = X.heap[k]? := by
  unfold set7
  rw [setCell_off h, setCell_off h, setCell_off h, setCell_off h, setCell_off h, setCell_off h, setCell_off h]
theorem set7_below {B : Nat} {a X : World} {g : Nat} (hb : Below B a X) (hg : B ≤ g) (v2 v3 v4 v5 v6 v7 v8 : Value) : Below B a (set7 X g v2 v3 v4 v5 v6 v7 v8) := by
  unfold set7
  exact ((((((hb.setCell (p := ⟨g, 2, none⟩) hg v2).setCell (p := ⟨g, 3, none⟩) hg v3).setCell (p := ⟨g, 4, none⟩) hg v4).setCell (p := ⟨g, 5, none⟩) hg v5).setCell (p := ⟨g, 6, none⟩) hg v6).setCell (p := ⟨g, 7, none⟩) hg v7).setCell (p := ⟨g, 8, none⟩) hg v8
/-- Make's variables. -/
structure MR (w : World) (A : Option Addr) (n c : Nat) (b8 : Nat) (cnt idx : Int) (x : Dg.It) (PP : Value) (X : World) : Prop where
  r2 : X.heap[w.heap.size]? = some (.cells #[.slice A n c] 24 (0, 0))
  r4 : X.heap[w.heap.size + 1]? = some (.cells #[.int .i64 0, .int .i64 0, .int .i64 0, .string ⟨#[]⟩, .string ⟨#[]⟩, .string ⟨#[]⟩, .string ⟨#[]⟩, .string ⟨#[]⟩, .bool false, .slice none 0 0] 29 (0, 0))
  r8 : X.heap[b8]? = some (.cells #[.int .i64 cnt, .int .i64 idx, .int .i64 x.kind, .string x.id, .string x.parent, .string x.number, .string x.north, .string x.south, .bool x.gone, PP] 29 (0, 0))
  bel : Below w.heap.size w X
  lt : w.heap.size + 1 < b8
theorem MR.next {w : World} {A : Option Addr} {n c : Nat} {b8 : Nat} {cnt idx : Int} {x : Dg.It} {PP : Value} {X X' : World} (h : MR w A n c b8 cnt idx x PP X) (hb : Below X.heap.size X X') : MR w A n c b8 cnt idx x PP X' := ⟨iNext h.r2 hb, iNext h.r4 hb, iNext h.r8 hb, bnext h.bel hb, h.lt⟩
theorem MR.far {w : World} {A : Option Addr} {n c : Nat} {b8 : Nat} {cnt idx : Int} {x : Dg.It} {PP : Value} {X X' : World} (h : MR w A n c b8 cnt idx x PP X) {g : Nat} (hg : b8 < g) (ho : ∀ k, k ≠ g → X'.heap[k]? = X.heap[k]?) (hb : Below w.heap.size w X') : MR w A n c b8 cnt idx x PP X' :=
  ⟨(ho _ (by have := h.lt; omega)).trans h.r2, (ho _ (by have := h.lt; omega)).trans h.r4, (ho _ (by omega)).trans h.r8, hb, h.lt⟩
theorem MR.setCnt {w : World} {A : Option Addr} {n c : Nat} {b8 : Nat} {cnt idx : Int} {x : Dg.It} {PP : Value} {X : World} (h : MR w A n c b8 cnt idx x PP X) (i : Int) : MR w A n c b8 i idx x PP (X.setCell ⟨b8, 0, none⟩ (.int .i64 i)) :=
  ⟨(setCell_off (by have := h.lt; omega)).trans h.r2, (setCell_off (by have := h.lt; omega)).trans h.r4, setCell_rowN h.r8 0 _, h.bel.setCell (p := ⟨b8, 0, none⟩) (by show w.heap.size ≤ b8; have := h.lt; omega) _, h.lt⟩
theorem MR.setIdx {w : World} {A : Option Addr} {n c : Nat} {b8 : Nat} {cnt idx : Int} {x : Dg.It} {PP : Value} {X : World} (h : MR w A n c b8 cnt idx x PP X) (i : Int) : MR w A n c b8 cnt i x PP (X.setCell ⟨b8, 1, none⟩ (.int .i64 i)) :=
  ⟨(setCell_off (by have := h.lt; omega)).trans h.r2, (setCell_off (by have := h.lt; omega)).trans h.r4, setCell_rowN h.r8 1 _, h.bel.setCell (p := ⟨b8, 1, none⟩) (by show w.heap.size ≤ b8; have := h.lt; omega) _, h.lt⟩
theorem MR.setPath {w : World} {A : Option Addr} {n c : Nat} {b8 : Nat} {cnt idx : Int} {x : Dg.It} {PP : Value} {X : World} (h : MR w A n c b8 cnt idx x PP X) (v : Value) : MR w A n c b8 cnt idx x v (X.setCell ⟨b8, 9, none⟩ v) :=
  ⟨(setCell_off (by have := h.lt; omega)).trans h.r2, (setCell_off (by have := h.lt; omega)).trans h.r4, setCell_rowN h.r8 9 _, h.bel.setCell (p := ⟨b8, 9, none⟩) (by show w.heap.size ≤ b8; have := h.lt; omega) _, h.lt⟩
theorem MR.setItem {w : World} {A : Option Addr} {n c : Nat} {b8 : Nat} {cnt idx : Int} {x : Dg.It} {PP : Value} {X : World} (h : MR w A n c b8 cnt idx x PP X) (y : Dg.It) : MR w A n c b8 cnt idx y PP (set7 X b8 (.int .i64 y.kind) (.string y.id) (.string y.parent) (.string y.number) (.string y.north) (.string y.south) (.bool y.gone)) :=
  ⟨(set7_off (by have := h.lt; omega) (.int .i64 y.kind) (.string y.id) (.string y.parent) (.string y.number) (.string y.north) (.string y.south) (.bool y.gone)).trans h.r2, (set7_off (by have := h.lt; omega) (.int .i64 y.kind) (.string y.id) (.string y.parent) (.string y.number) (.string y.north) (.string y.south) (.bool y.gone)).trans h.r4, set7_row h.r8 (.int .i64 y.kind) (.string y.id) (.string y.parent) (.string y.number) (.string y.north) (.string y.south) (.bool y.gone), set7_below h.bel (by have := h.lt; omega) (.int .i64 y.kind) (.string y.id) (.string y.parent) (.string y.number) (.string y.north) (.string y.south) (.bool y.gone), h.lt⟩
def zIt : Dg.It := ⟨0, ⟨#[]⟩, ⟨#[]⟩, ⟨#[]⟩, ⟨#[]⟩, ⟨#[]⟩, false⟩
theorem bare_mk9 (y : Dg.It) (hg : y.gone = false) : Dg.bareI y = ⟨y.kind, y.id, y.parent, ⟨#[]⟩, y.north, y.south, false⟩ := by rw [← hg]; rfl
theorem make_none {l : List Dg.It} {id : ByteArray} (hv : Dg.validC l = true) (h : ∀ j (hj : j < l.length), l[j].id ≠ id) : makeE l id = (noPf, 11) := by
  have hf : l.findIdx? (fun x => decide (x.id = id)) = none := by
    rw [List.findIdx?_eq_none_iff]
    intro x hx
    obtain ⟨j, hj, rfl⟩ := List.mem_iff_getElem.1 hx
    exact decide_eq_false (h j hj)
  unfold makeE
  rw [if_neg (by rw [hv]; decide), hf]
set_option maxRecDepth 100000 in
set_option maxHeartbeats 16000000 in
theorem rmake_of (l : List Dg.It) (A : Option Addr) (n c : Nat) (hl : l.length = n) (hw : ∀ x ∈ l, ItW x) (hn : n ≤ 10000) (hz : ∀ x ∈ l, ∀ s ∈ Dg.fieldsI x, s.size ≤ 10000) (id : ByteArray) (w : World) (hI : Its w w.heap.size A l) (p : Pf) (E : Int) (hE : makeE l id = (p, E)) :
    Calls Tryz.prog 15 #[.agg #[.slice A n c], .string id] w fun e w' => ∃ A9 c9, e = .returned (.tuple #[.agg #[.int .i64 p.count, .int .i64 p.idx, .int .i64 p.it.kind, .string p.it.id, .string p.it.parent, .string p.it.number, .string p.it.north, .string p.it.south, .bool p.it.gone, .slice A9 p.path.length c9], .int .i64 E]) ∧ p.path.length ≤ c9 ∧ Strs w' w'.heap.size A9 p.path ∧ Below w.heap.size w w' := by
  have r2 := iNext (heap_alloc_new w (.cells #[.slice A n c] 24)) (Below.news (Below.refl _ _) (.cells #[.int .i64 0, .int .i64 0, .int .i64 0, .string ⟨#[]⟩, .string ⟨#[]⟩, .string ⟨#[]⟩, .string ⟨#[]⟩, .string ⟨#[]⟩, .bool false, .slice none 0 0] 29))
  have r4 := heap_alloc_new (w.alloc (.cells #[.slice A n c] 24)) (.cells #[.int .i64 0, .int .i64 0, .int .i64 0, .string ⟨#[]⟩, .string ⟨#[]⟩, .string ⟨#[]⟩, .string ⟨#[]⟩, .string ⟨#[]⟩, .bool false, .slice none 0 0] 29)
  have hs1 : (w.alloc (.cells #[.slice A n c] 24)).heap.size = w.heap.size + 1 := by simp
  have hb := bnext (Below.news (Below.refl w.heap.size w) (.cells #[.slice A n c] 24)) (Below.news (Below.refl _ _) (.cells #[.int .i64 0, .int .i64 0, .int .i64 0, .string ⟨#[]⟩, .string ⟨#[]⟩, .string ⟨#[]⟩, .string ⟨#[]⟩, .string ⟨#[]⟩, .bool false, .slice none 0 0] 29))
  rw [hs1] at r4
  have HL := hide hl; have HW := hide hw; have HZ := hide hz; have HI := hide hI; have HE := hide hE
  clear hl hw hz hI hE hs1
  go_enter Tryz.func15, Tryz.ntmps15
  go_upto_region 1 with (fail)
  generalize (w.alloc (.cells #[.slice A n c] 24)).alloc (.cells #[.int .i64 0, .int .i64 0, .int .i64 0, .string ⟨#[]⟩, .string ⟨#[]⟩, .string ⟨#[]⟩, .string ⟨#[]⟩, .string ⟨#[]⟩, .bool false, .slice none 0 0] 29) = w1 at *
  have hc2 := iCells0 r2
  obtain ⟨V, hV⟩ : ∃ V, Dg.validC l = V := ⟨_, rfl⟩
  go_wp2_with fail
  refine (rvalidC_of l A n c HL.out HW.out (by omega) w1 ((HI.out.below hb).more hb.size) V hV).mono ?_
  rintro e w2 ⟨rfl, hx⟩
  have r2' := iNext r2 hx
  have r4' := iNext r4 hx
  have hb2 := bnext hb hx
  clear r2 r4 hb hx hc2
  cases V with
  | false =>
    have E9 := hide (show makeE l id = (noPf, 1) by unfold makeE; rw [if_pos hV])
    have HP := hide (show (p, E) = (noPf, 1) by rw [← HE.out, E9.out])
    obtain ⟨zc0, zc1, zc2, zc3, zc4, zc5, zc6, zc7, zc8, zc9⟩ := jCells10 r4'
    obtain ⟨zf0, zf1, zf2, zf3, zf4, zf5, zf6, zf7, zf8, zf9⟩ := frz10 r4'
    go_wp2
    refine bodyPost_ret (results_ct Tryz.results15 _ _ (w.heap.size + 1) 29 #[.int .i64 0, .int .i64 0, .int .i64 0, .string ⟨#[]⟩, .string ⟨#[]⟩, .string ⟨#[]⟩, .string ⟨#[]⟩, .string ⟨#[]⟩, .bool false, .slice none 0 0] (0, 0) _ rfl (set10_row r4' (.int .i64 0) (.int .i64 0) (.int .i64 0) (.string ⟨#[]⟩) (.string ⟨#[]⟩) (.string ⟨#[]⟩) (.string ⟨#[]⟩) (.string ⟨#[]⟩) (.bool false) (.slice none 0 0)) Tryz.underlying29 (by kernel_rfl)) rfl ⟨none, 0, ?_, ?_, ?_, set10_below hb2 (by omega) (.int .i64 0) (.int .i64 0) (.int .i64 0) (.string ⟨#[]⟩) (.string ⟨#[]⟩) (.string ⟨#[]⟩) (.string ⟨#[]⟩) (.string ⟨#[]⟩) (.bool false) (.slice none 0 0)⟩
    · have := HP.out; injection this with h1 h2; rw [h1, h2]; rfl
    · have := HP.out; injection this with h1 h2; rw [h1]; exact Nat.le_refl _
    · have := HP.out; injection this with h1 h2; rw [h1]; exact Strs.nil _ _ _
  | true =>
    have HV := hide hV
    clear hV
    have hx3 := Below.news (Below.refl w2.heap.size w2) (.cells #[.int .i64 0, .int .i64 0, .int .i64 0, .string ⟨#[]⟩, .string ⟨#[]⟩, .string ⟨#[]⟩, .string ⟨#[]⟩, .string ⟨#[]⟩, .bool false, .slice none 0 0] 29)
    have r8 := heap_alloc_new w2 (.cells #[.int .i64 0, .int .i64 0, .int .i64 0, .string ⟨#[]⟩, .string ⟨#[]⟩, .string ⟨#[]⟩, .string ⟨#[]⟩, .string ⟨#[]⟩, .bool false, .slice none 0 0] 29)
    have hM3 : MR w A n c w2.heap.size 0 0 zIt (.slice none 0 0) (w2.alloc (.cells #[.int .i64 0, .int .i64 0, .int .i64 0, .string ⟨#[]⟩, .string ⟨#[]⟩, .string ⟨#[]⟩, .string ⟨#[]⟩, .string ⟨#[]⟩, .bool false, .slice none 0 0] 29)) := ⟨iNext r2' hx3, iNext r4' hx3, r8, bnext hb2 hx3, by
      have := lt_of_block r4'; omega⟩
    clear r2' r4' hb2 hx3 r8
    go_upto_region 6 with (fail)
    generalize w2.alloc (.cells #[.int .i64 0, .int .i64 0, .int .i64 0, .string ⟨#[]⟩, .string ⟨#[]⟩, .string ⟨#[]⟩, .string ⟨#[]⟩, .string ⟨#[]⟩, .bool false, .slice none 0 0] 29) = w3 at *
    generalize w2.heap.size = b8 at *
    go_wp2
    go_loopw [6, 7, 9] (fun nv av iv wr => ∃ k : Nat, k ≤ n ∧ nv = .int .i64 ((idxN l k : Nat) : Int) ∧ iv = .int .i64 (k : Int) ∧ ∃ (a : Int) (x : Dg.It), av = .int .i64 a ∧ MR w A n c b8 0 0 x (.slice none 0 0) wr ∧ Hid ((a = -1 ∧ x = zIt ∧ ∀ j (hj : j < l.length), j < k → l[j].id ≠ id) ∨ ∃ j, ∃ hj : j < l.length, l[j].id = id ∧ l[j].gone = false ∧ a = ((idxN l j : Nat) : Int) ∧ x = Dg.bareI l[j])) (fun _ _ iv _ => n - (intOf iv).toNat)
    case atStart => exact ⟨0, by omega, by rfl, rfl, -1, zIt, rfl, hM3, Or.inl ⟨rfl, rfl, fun j hj h => by omega⟩⟩
    case round =>
      clear hM3
      obtain ⟨k, hk, rfl, rfl, a, x, rfl, hM, HA⟩ := hrel
      have hc2 := iCells0 hM.r2
      have hk0 : (0 : Int) ≤ (k : Int) := by omega
      by_cases hlt : k < n
      · have hkl : k < l.length := by rw [HL.out]; exact hlt
        obtain ⟨b, off, rfl⟩ := (HI.out.below hM.bel).some hkl
        have hkn : (k : Int) < (n : Int) := by omega
        obtain ⟨y, hy⟩ : ∃ y, l[k] = y := ⟨_, rfl⟩
        obtain ⟨_, p0, p1, p2, p3, p4, p5, p6⟩ := (HI.out.below hM.bel).cells hkl y hy
        obtain ⟨q, hq⟩ : ∃ q, idxN l k = q := ⟨_, rfl⟩
        have hqk : q ≤ k := by rw [← hq]; exact idxN_le _ _
        have HQ1 := hide (show idxN l (k + 1) = q + (if y.gone = true then 0 else 1) by rw [idxN_succ hkl, hq, hy])
        have HY := hide hy
        have HQ := hide hq
        rw [hq]
        clear hq hy
        have hx7 := Below.news (Below.refl wr.heap.size wr) (.cells #[.int .i64 y.kind, .string y.id, .string y.parent, .string y.number, .string y.north, .string y.south, .bool y.gone] 26)
        have hr7 := heap_alloc_new wr (.cells #[.int .i64 y.kind, .string y.id, .string y.parent, .string y.number, .string y.north, .string y.south, .bool y.gone] 26)
        have hM7 := hM.next hx7
        have hlt8 := lt_of_block hM.r8
        go_upto_region 10 with (fail)
        clear hM hx7 p0 p1 p2 p3 p4 p5 p6 hc2
        generalize wr.alloc (.cells #[.int .i64 y.kind, .string y.id, .string y.parent, .string y.number, .string y.north, .string y.south, .bool y.gone] 26) = w7 at *
        generalize wr.heap.size = b7 at *
        obtain ⟨t0, t1, t2, t3, t4, t5, t6⟩ := iCells hr7
        by_cases hid : y.id = id
        · have hbe := bs_yes hid
          have HID := hide hid
          clear hid
          cases gy : y.gone with
          | true =>
            rw [gy] at t6
            have E9 := hide (show makeE l id = (noPf, 16) by
              have h1 := make_at HV.out hkl
              rw [HY.out, HID.out, if_pos gy] at h1
              exact h1)
            have HP := hide (show (p, E) = (noPf, 16) by rw [← HE.out, E9.out])
            obtain ⟨zc0, zc1, zc2, zc3, zc4, zc5, zc6, zc7, zc8, zc9⟩ := jCells10 hM7.r4
            obtain ⟨zf0, zf1, zf2, zf3, zf4, zf5, zf6, zf7, zf8, zf9⟩ := frz10 hM7.r4
            go_wp2
            refine bodyPost_ret (results_ct Tryz.results15 _ _ (w.heap.size + 1) 29 #[.int .i64 0, .int .i64 0, .int .i64 0, .string ⟨#[]⟩, .string ⟨#[]⟩, .string ⟨#[]⟩, .string ⟨#[]⟩, .string ⟨#[]⟩, .bool false, .slice none 0 0] (0, 0) _ rfl (set10_row hM7.r4 (.int .i64 0) (.int .i64 0) (.int .i64 0) (.string ⟨#[]⟩) (.string ⟨#[]⟩) (.string ⟨#[]⟩) (.string ⟨#[]⟩) (.string ⟨#[]⟩) (.bool false) (.slice none 0 0)) Tryz.underlying29 (by kernel_rfl)) rfl ⟨none, 0, ?_, ?_, ?_, set10_below hM7.bel (by omega) (.int .i64 0) (.int .i64 0) (.int .i64 0) (.string ⟨#[]⟩) (.string ⟨#[]⟩) (.string ⟨#[]⟩) (.string ⟨#[]⟩) (.string ⟨#[]⟩) (.bool false) (.slice none 0 0)⟩
            · have := HP.out; injection this with h1 h2; rw [h1, h2]; rfl
            · have := HP.out; injection this with h1 h2; rw [h1]; exact Nat.le_refl _
            · have := HP.out; injection this with h1 h2; rw [h1]; exact Strs.nil _ _ _
          | false =>
            rw [gy] at t6 hr7 HQ1
            have hf3 := frozen_of_row _ _ 3 _ _ hr7
            go_upto_region 14 with (fail)
            have hvr := setCell_rowN hr7 3 (.string ⟨#[]⟩)
            simp only [List.setIfInBounds_toArray, List.set_cons_zero, List.set_cons_succ] at hvr
            have hM8 := hM7.far hlt8 (fun k hk => setCell_off (v := .string ⟨#[]⟩) (o := 3) hk) (hM7.bel.setCell (p := ⟨b7, 3, none⟩) (by show w.heap.size ≤ b7; have := hM7.lt; omega) _)
            clear hM7 hr7 t0 t1 t2 t3 t4 t5 t6 hf3 hbe
            generalize w7.setCell ⟨b7, 3, none⟩ (.string ⟨#[]⟩) = w8 at *
            obtain ⟨t0, t1, t2, t3, t4, t5, t6⟩ := iCells hvr
            obtain ⟨z0, z1, z2, z3, z4, z5, z6, z7, z8, z9⟩ := jCells10 hM8.r8
            obtain ⟨f0, f1, f2, f3, f4, f5, f6, f7, f8, f9⟩ := frz10 hM8.r8
            go_upto_region 15 with (fail)
            have hM9 := hM8.setItem ⟨y.kind, y.id, y.parent, ⟨#[]⟩, y.north, y.south, false⟩
            have hr9 := (set7_off (X := w8) (Nat.ne_of_gt hlt8) (.int .i64 y.kind) (.string y.id) (.string y.parent) (.string ⟨#[]⟩) (.string y.north) (.string y.south) (.bool false)).trans hvr
            change Code.wp _ _ _ _ (set7 w8 b8 (.int .i64 y.kind) (.string y.id) (.string y.parent) (.string ⟨#[]⟩) (.string y.north) (.string y.south) (.bool false))
            clear hM8 hvr t0 t1 t2 t3 t4 t5 t6 z0 z1 z2 z3 z4 z5 z6 z7 z8 z9 f0 f1 f2 f3 f4 f5 f6 f7 f8 f9
            generalize set7 w8 b8 (.int .i64 y.kind) (.string y.id) (.string y.parent) (.string ⟨#[]⟩) (.string y.north) (.string y.south) (.bool false) = w9 at *
            obtain ⟨t0, t1, t2, t3, t4, t5, t6⟩ := iCells hr9
            go_wp2
            go_roundw
            case rel => exact ⟨k + 1, by omega, by rw [HQ1.out]; go_num, by go_num, _, _, rfl, hM9, Or.inr ⟨k, hkl, by rw [HY.out]; exact HID.out, by rw [HY.out]; exact gy, by rw [HQ.out], by rw [HY.out]; show _ = Dg.bareI y; rw [bare_mk9 y gy]⟩⟩
            case measure => simp [intOf]; omega
        · have hbe := bs_no hid
          have HNA := hide (show (a = -1 ∧ x = zIt ∧ ∀ j (hj : j < l.length), j < k + 1 → l[j].id ≠ id) ∨ ∃ j, ∃ hj : j < l.length, l[j].id = id ∧ l[j].gone = false ∧ a = ((idxN l j : Nat) : Int) ∧ x = Dg.bareI l[j] from HA.out.imp (fun ⟨h1, h2, h3⟩ => ⟨h1, h2, fun j hj hjk => by
            by_cases e : j = k
            · subst e
              rw [HY.out]
              exact hid
            · exact h3 j hj (by omega)⟩) fun h => h)
          clear hid HA
          cases gy : y.gone with
          | true =>
            rw [gy] at t6 HQ1
            go_wp2
            go_roundw
            case rel => exact ⟨k + 1, by omega, by rw [HQ1.out]; rfl, by go_num, a, x, rfl, hM7, HNA.out⟩
            case measure => simp [intOf]; omega
          | false =>
            rw [gy] at t6 HQ1
            go_wp2
            go_roundw
            case rel => exact ⟨k + 1, by omega, by rw [HQ1.out]; go_num, by go_num, a, x, rfl, hM7, HNA.out⟩
            case measure => simp [intOf]; omega
      · obtain rfl : n = k := by omega
        rcases HA.out with ⟨rfl, rfl, hno⟩ | ⟨j, hj, hji, hjg, rfl, rfl⟩
        · have E9 := hide (make_none HV.out fun j hj => hno j hj (by rw [← HL.out]; exact hj))
          have HP := hide (show (p, E) = (noPf, 11) by rw [← HE.out, E9.out])
          clear HA hno
          obtain ⟨zc0, zc1, zc2, zc3, zc4, zc5, zc6, zc7, zc8, zc9⟩ := jCells10 hM.r4
          obtain ⟨zf0, zf1, zf2, zf3, zf4, zf5, zf6, zf7, zf8, zf9⟩ := frz10 hM.r4
          go_wp2
          refine bodyPost_ret (results_ct Tryz.results15 _ _ (w.heap.size + 1) 29 #[.int .i64 0, .int .i64 0, .int .i64 0, .string ⟨#[]⟩, .string ⟨#[]⟩, .string ⟨#[]⟩, .string ⟨#[]⟩, .string ⟨#[]⟩, .bool false, .slice none 0 0] (0, 0) _ rfl (set10_row hM.r4 (.int .i64 0) (.int .i64 0) (.int .i64 0) (.string ⟨#[]⟩) (.string ⟨#[]⟩) (.string ⟨#[]⟩) (.string ⟨#[]⟩) (.string ⟨#[]⟩) (.bool false) (.slice none 0 0)) Tryz.underlying29 (by kernel_rfl)) rfl ⟨none, 0, ?_, ?_, ?_, set10_below hM.bel (by omega) (.int .i64 0) (.int .i64 0) (.int .i64 0) (.string ⟨#[]⟩) (.string ⟨#[]⟩) (.string ⟨#[]⟩) (.string ⟨#[]⟩) (.string ⟨#[]⟩) (.bool false) (.slice none 0 0)⟩
          · have := HP.out; injection this with h1 h2; rw [h1, h2]; rfl
          · have := HP.out; injection this with h1 h2; rw [h1]; exact Nat.le_refl _
          · have := HP.out; injection this with h1 h2; rw [h1]; exact Strs.nil _ _ _
        · obtain ⟨L, hL⟩ : ∃ L, Dg.leavesOf l = L := ⟨_, rfl⟩
          obtain ⟨m, hm⟩ : ∃ m, L.length = m := ⟨_, rfl⟩
          have hLC : Dg.leavesC l = L := by unfold Dg.leavesC; rw [if_pos HV.out, hL]
          have hmn : idxN l n = m := by rw [← HL.out, idxN_all, hL, hm]
          obtain ⟨q, hq⟩ : ∃ q, idxN l j = q := ⟨_, rfl⟩
          have hqm : q < m := by
            have h9 := idxN_mono l (j := j + 1) (k := l.length) (by omega)
            rw [idxN_succ hj, hjg, if_neg (by decide), HL.out, hmn, hq] at h9
            exact h9
          have hpp : p = ⟨(m : Int), (q : Int), Dg.bareI l[j], Dg.path L q⟩ ∧ E = 0 := by
            have h1 := make_at HV.out hj
            rw [hji, HE.out, if_neg (by rw [hjg]; decide), hL, hm, hq] at h1
            injection h1 with h1 h2
            exact ⟨h1, h2⟩
          have hmn2 : m ≤ n := by rw [← hmn]; exact idxN_le _ _
          obtain ⟨y, hy⟩ : ∃ y, Dg.bareI l[j] = y := ⟨_, rfl⟩
          rw [hy] at hM hpp
          have hpz : ∀ s ∈ Dg.path L q, s.size = 16 := fun s hs => (Dg.path_sizes L.length L q rfl s hs).2
          have hLz : ∀ s ∈ L, s.size ≤ 1048576 := fun s hs => by
            rw [← hL] at hs
            unfold Dg.leavesOf at hs
            obtain ⟨x, hx, rfl⟩ := List.mem_map.1 hs
            exact leafI_size2 (leafS_size (by decide) (HZ.out x (List.mem_filter.1 hx).1))
          obtain ⟨hpE, rfl⟩ := hpp
          have HPP := hide hpE; have HPZ := hide hpz; have HLZ := hide hLz; have HLC := hide hLC; have HMM := hide hm
          rw [hmn, hq]
          clear HA hji hjg hL hm hLC hq hy hpE hpz hLz hmn
          have hq0 : ¬ (q : Int) < 0 := by omega
          obtain ⟨z0, z1, z2, z3, z4, z5, z6, z7, z8, z9⟩ := jCells10 hM.r8
          have ff := frozen_of_row _ _ 0 _ _ hM.r8
          go_upto_region 21 with (fail)
          have hM1 := hM.setCnt (m : Int)
          clear hM z0 z1 z2 z3 z4 z5 z6 z7 z8 z9 ff hc2
          generalize wr.setCell ⟨b8, 0, none⟩ (.int .i64 (m : Int)) = w3 at *
          obtain ⟨z0, z1, z2, z3, z4, z5, z6, z7, z8, z9⟩ := jCells10 hM1.r8
          have ff := frozen_of_row _ _ 1 _ _ hM1.r8
          go_upto_region 22 with (fail)
          have hM2 := hM1.setIdx (q : Int)
          clear hM1 z0 z1 z2 z3 z4 z5 z6 z7 z8 z9 ff
          generalize w3.setCell ⟨b8, 1, none⟩ (.int .i64 (q : Int)) = w4 at *
          have hc2 := iCells0 hM2.r2
          go_wp2_with fail
          refine (rleaves_of l A n c HL.out HW.out (by omega) w4 ((HI.out.below hM2.bel).more hM2.bel.size) (few_up2 HZ.out (by decide)) L HLC.out m HMM.out).mono ?_
          rintro e w5 ⟨⟨A7, c7, rfl, hc7, hs7⟩, hx5⟩
          have hM5 := hM2.next hx5
          clear hM2 hx5 hc2
          go_wp2_with fail
          refine (rPath_any A7 c7 m L q w5 HMM.out hc7 (by omega) HLZ.out hs7 hqm).mono ?_
          rintro e w11 ⟨A9, c9, qq, rfl, hq1, hq2, hS11, hx11⟩
          have hM11 := hM5.next hx11
          clear hM5 hx11 hs7
          obtain ⟨_, _, _, _, _, _, _, _, _, z9⟩ := jCells10 hM11.r8
          have fz9 := frozen_of_row _ _ 9 _ _ hM11.r8
          go_upto_region 24 with (fail)
          have hM12 := hM11.setPath (.slice A9 qq c9)
          have hS12 := strs_set hS11 z9 (fun s hs => by simp) (.slice A9 qq c9)
          have hsz : (w11.setCell ⟨b8, 9, none⟩ (.slice A9 qq c9)).heap.size = w11.heap.size := by simp [World.setCell]
          rw [← hsz] at hS12
          clear hM11 hS11 z9 fz9 hsz
          generalize w11.setCell ⟨b8, 9, none⟩ (.slice A9 qq c9) = w12 at *
          have HQ1 := hide hq1; have HQ2 := hide hq2
          clear hq1 hq2
          obtain ⟨y0, y1, y2, y3, y4, y5, y6, y7, y8, y9⟩ := jCells10 hM12.r8
          obtain ⟨zc0, zc1, zc2, zc3, zc4, zc5, zc6, zc7, zc8, zc9⟩ := jCells10 hM12.r4
          obtain ⟨zf0, zf1, zf2, zf3, zf4, zf5, zf6, zf7, zf8, zf9⟩ := frz10 hM12.r4
          go_wp2
          refine bodyPost_ret (results_ct Tryz.results15 _ _ (w.heap.size + 1) 29 #[.int .i64 (m : Int), .int .i64 (q : Int), .int .i64 y.kind, .string y.id, .string y.parent, .string y.number, .string y.north, .string y.south, .bool y.gone, .slice A9 qq c9] (0, 0) _ rfl (set10_row hM12.r4 (.int .i64 (m : Int)) (.int .i64 (q : Int)) (.int .i64 y.kind) (.string y.id) (.string y.parent) (.string y.number) (.string y.north) (.string y.south) (.bool y.gone) (.slice A9 qq c9)) Tryz.underlying29 (by kernel_rfl)) rfl ⟨A9, c9, ?_, ?_, ?_, set10_below hM12.bel (by omega) (.int .i64 (m : Int)) (.int .i64 (q : Int)) (.int .i64 y.kind) (.string y.id) (.string y.parent) (.string y.number) (.string y.north) (.string y.south) (.bool y.gone) (.slice A9 qq c9)⟩
          · rw [HPP.out]
            simp only [HQ1.out]
            rfl
          · rw [HPP.out]; simp only [HQ1.out]; exact HQ2.out
          · rw [HPP.out]
            have h9 := strs_set10 hS12 hM12.r4 (fun s hs u hu => by
              have := HPZ.out s hs
              simp only [List.mem_cons, List.not_mem_nil, or_false] at hu
              rintro rfl
              rcases hu with h | h | h | h | h | h | h | h | h | h <;> first | (cases h; done) | (injection h with h; rw [h] at this; exact absurd this (by decide))) (.int .i64 (m : Int)) (.int .i64 (q : Int)) (.int .i64 y.kind) (.string y.id) (.string y.parent) (.string y.number) (.string y.north) (.string y.south) (.bool y.gone) (.slice A9 qq c9)
            refine h9.more ?_
            exact Nat.le_of_eq (set10_size _ _ _ _ _ _ _ _ _ _ _ _).symm
attribute [-go_sem] run_eql_struct in
set_option maxRecDepth 100000 in
set_option maxHeartbeats 4000000 in
theorem rsame_of (p : Pf) (pn : Nat) (A9 B9 : Option Addr) (c9 d9 : Nat) (hpn : p.path.length = pn) (hn : pn ≤ 1048576) (w : World) (hS : Strs w w.heap.size A9 p.path) (hS2 : Strs w w.heap.size B9 p.path) :
    Calls Tryz.prog 16 #[.agg #[.int .i64 p.count, .int .i64 p.idx, .int .i64 p.it.kind, .string p.it.id, .string p.it.parent, .string p.it.number, .string p.it.north, .string p.it.south, .bool p.it.gone, .slice A9 pn c9], .agg #[.int .i64 p.count, .int .i64 p.idx, .int .i64 p.it.kind, .string p.it.id, .string p.it.parent, .string p.it.number, .string p.it.north, .string p.it.south, .bool p.it.gone, .slice B9 pn d9]] w fun e w' => e = .returned (.bool true) ∧ Below w.heap.size w w' := by
  have hx1 := Below.news (Below.refl w.heap.size w) (.cells #[.int .i64 p.count, .int .i64 p.idx, .int .i64 p.it.kind, .string p.it.id, .string p.it.parent, .string p.it.number, .string p.it.north, .string p.it.south, .bool p.it.gone, .slice A9 pn c9] 29)
  have hr1 := heap_alloc_new w (.cells #[.int .i64 p.count, .int .i64 p.idx, .int .i64 p.it.kind, .string p.it.id, .string p.it.parent, .string p.it.number, .string p.it.north, .string p.it.south, .bool p.it.gone, .slice A9 pn c9] 29)
  have hx2 := Below.news (Below.refl _ (w.alloc (.cells #[.int .i64 p.count, .int .i64 p.idx, .int .i64 p.it.kind, .string p.it.id, .string p.it.parent, .string p.it.number, .string p.it.north, .string p.it.south, .bool p.it.gone, .slice A9 pn c9] 29))) (.cells #[.int .i64 p.count, .int .i64 p.idx, .int .i64 p.it.kind, .string p.it.id, .string p.it.parent, .string p.it.number, .string p.it.north, .string p.it.south, .bool p.it.gone, .slice B9 pn d9] 29)
  have hr2 := heap_alloc_new (w.alloc (.cells #[.int .i64 p.count, .int .i64 p.idx, .int .i64 p.it.kind, .string p.it.id, .string p.it.parent, .string p.it.number, .string p.it.north, .string p.it.south, .bool p.it.gone, .slice A9 pn c9] 29)) (.cells #[.int .i64 p.count, .int .i64 p.idx, .int .i64 p.it.kind, .string p.it.id, .string p.it.parent, .string p.it.number, .string p.it.north, .string p.it.south, .bool p.it.gone, .slice B9 pn d9] 29)
  have hs1 : (w.alloc (.cells #[.int .i64 p.count, .int .i64 p.idx, .int .i64 p.it.kind, .string p.it.id, .string p.it.parent, .string p.it.number, .string p.it.north, .string p.it.south, .bool p.it.gone, .slice A9 pn c9] 29)).heap.size = w.heap.size + 1 := by simp
  have hr3 := iNext hr1 hx2
  have hb := bnext hx1 hx2
  rw [hs1] at hr2
  have HP := hide hpn; have HS := hide hS; have HS2 := hide hS2
  clear hpn hS hS2 hr1 hx1 hx2 hs1
  have hit : ∀ W, (binOp .eql 26 (.agg #[.int .i64 p.it.kind, .string p.it.id, .string p.it.parent, .string p.it.number, .string p.it.north, .string p.it.south, .bool p.it.gone]) (.agg #[.int .i64 p.it.kind, .string p.it.id, .string p.it.parent, .string p.it.number, .string p.it.north, .string p.it.south, .bool p.it.gone])).run Tryz.prog W = .ok (.bool true) W := fun W => by
    have := item_eql W p.it p.it
    rw [(sameI_iff p.it p.it).2 rfl] at this
    exact this
  obtain ⟨z0, z1, z2, z3, z4, z5, z6, z7, z8, z9⟩ := jCells10 hr3
  obtain ⟨y0, y1, y2, y3, y4, y5, y6, y7, y8, y9⟩ := jCells10 hr2
  go_enter Tryz.func16, Tryz.ntmps16
  go_wp2_with fail
  generalize (w.alloc (.cells #[.int .i64 p.count, .int .i64 p.idx, .int .i64 p.it.kind, .string p.it.id, .string p.it.parent, .string p.it.number, .string p.it.north, .string p.it.south, .bool p.it.gone, .slice A9 pn c9] 29)).alloc (.cells #[.int .i64 p.count, .int .i64 p.idx, .int .i64 p.it.kind, .string p.it.id, .string p.it.parent, .string p.it.number, .string p.it.north, .string p.it.south, .bool p.it.gone, .slice B9 pn d9] 29) = w1 at *
  refine (same_of A9 B9 c9 d9 p.path p.path pn pn HP.out HP.out true ((Dg.same_iff _ _).2 rfl) w1 (by omega) (by omega) ((HS.out.below hb).more hb.size) ((HS2.out.below hb).more hb.size)).mono ?_
  rintro e w2 ⟨rfl, hx⟩
  have hb2 := bnext hb hx
  clear hx hr2 hr3 z0 z1 z2 z3 z4 z5 z6 z7 z8 z9 y0 y1 y2 y3 y4 y5 y6 y7 y8 y9 hit
  go_wp2
  go_ret
  exact ⟨rfl, hb2⟩
end Go.Proofs.YtobhpeockinnjaaGreatDoor
/- The last step of each law's row: the result is true, and each argument reads as it did. No conditions. -/
namespace Go.Proofs.YtobhpeockinnjaaGreatDoor
open Go Go.RowKit Go.ChangeShapes Go.WideShapes Go.ChangeAt
section
variable {H : Type} {enc : TypeId × Value → H} {P : Program}
theorem trodAll_later (hl : laidOutB P = true) {W W' : World} (hb : Below W.heap.size W W') : ∀ {ts : List TypeId} {vs : List Value} {ds : List (DataW H)} {ps : List MemPlace},
    (∀ t ∈ ts, P.readableRec t = true ∧ t < P.types.size) → (∀ x ∈ ps, x.block < W.heap.size) → DataW.TrodAll enc P W 0 (fun _ => true) true ts vs ds ps → DataW.TrodAll enc P W' 0 (fun b => decide (b < W.heap.size)) true ts vs ds ps
  | [], vs, ds, ps, _, _, h => by
    obtain ⟨rfl, rfl, rfl⟩ := trodAll_nil h
    exact trodAll_mk0
  | t :: ts, vs, ds, ps, hts, hlt, h => by
    obtain ⟨v, vs', d, ds', p, q, rfl, rfl, rfl, hv, hr⟩ := trodAll_cons h
    obtain ⟨h1, h2⟩ := hts t (List.mem_cons_self ..)
    exact trodAll_cons_mk (Below.trod hl h1 h2 hv hb fun x hx => hlt x (List.mem_append_left _ hx))
      (trodAll_later hl hb (fun t' ht' => hts t' (List.mem_cons_of_mem _ ht')) (fun x hx => hlt x (List.mem_append_right _ hx)) hr)
theorem law_post (hl : laidOutB P = true) {f : Func} {s : ChangeSpec} (hv : s.vars = []) {tb : TypeId} (hrt : f.resultTypes = #[tb]) (htb : P.underlying tb = some .bool)
    (hts : (f.params.toList.all fun t => P.readableRec t && decide (t < P.types.size)) = true) {W W' : World} {args : Array Value} {ds gs : List (DataW H)} {before : List MemPlace}
    (hW : DataW.Whole enc P f.params.toList s.vars false W args.toList ds gs before) (hfn : s.fn H (ds ++ gs) = { results := [.lit (.bool true)], args := ds }) (hb : Below W.heap.size W W') :
    s.post enc P f false true false false W args (.bool true) W' := by
  have hlt : ∀ p ∈ before, p.block < W.heap.size := fun p hp => hW.lt p hp
  have hW' := hW
  obtain ⟨p, q, hA, hV, rfl, _, _⟩ := hW
  refine ⟨ds, gs, p ++ q, [], p, [], hW', ?_, ?_, ?_, hb.frame _, fun h => by cases h⟩
  · rw [hfn, hrt]
    exact trodAll_mk1 (shut_bool htb true)
  · rw [hfn]
    exact trodAll_later hl hb (fun t ht => by have := List.all_eq_true.1 hts t ht; simpa using this) (fun x hx => hlt x (List.mem_append_left _ hx)) hA
  · rw [hfn, hv]
    exact rfl
end
end Go.Proofs.YtobhpeockinnjaaGreatDoor
/- The arguments of the laws, opened: strings, small numbers, slices of strings. No conditions. -/
namespace Go.Proofs.YtobhpeockinnjaaGreatDoor
open Go Go.RowKit Go.ChangeShapes Go.WideShapes Go.ChangeAt Go.WideMaps Go.WideElems
open Go.ChangeMaps (open_string)
theorem laid_mem {P : Program} {w : World} {n : String} {d : DataW Unit} : ∀ {l : List (String × DataW Unit)} {ps : List MemPlace}, (n, d) ∈ l → DataW.LaidVars P w l ps →
    ∃ g t cs fuel p, P.globalNamed n = some g ∧ (P.globals[g]?).map (·.type) = some t ∧ w.var? P n = some cs ∧ DataW.trod (fun _ => ()) P w 0 (fun _ => true) false fuel t cs.toList = some (d, p)
  | [], _, hm, _ => by cases hm
  | x :: r, ps, hm, h => by
    obtain ⟨g, t, cs, fuel, p, q, h1, h2, h3, h4, h5, _⟩ := h
    rcases List.mem_cons.1 hm with hx | hx
    · subst hx
      exact ⟨g, t, cs, fuel, p, h1, h2, h3, h4⟩
    · exact laid_mem hx h5
theorem env_of_laid {W : World} {l : List (String × DataW Unit)} (hp : (l.all fun x => x.2.handleName?.isNone) = true) (hm : ("internal/strconv.uint64pow10", Lib.tabData .u64 Lib.pow10Tab) ∈ l) (h : laidMetH Tryz.prog l W) : Env W := by
  rw [MakeChecks.laidMetH_plain _ _ _ hp] at h
  obtain ⟨ps, hl, _⟩ := h
  obtain ⟨g, t, cs, fuel, p, hg, ht, hvar, hd⟩ := laid_mem hm hl
  obtain rfl := Option.some.inj (gPow.symm.trans hg)
  obtain rfl := Option.some.inj ((show (Tryz.prog.globals[0]?).map (·.type) = some 202 by kernel_rfl).symm.trans ht)
  unfold Env Lib.TabIs
  rw [hvar, ← Lib.cells_of_tab Tryz.underlying202 Tryz.underlying145 (by kernel_rfl) (by kernel_rfl) hd]
section
variable {H : Type} {enc : TypeId × Value → H}
theorem addr_of_cell {w : World} {a : Addr} {v : Value} (h : w.cell? a = some v) : a = ⟨a.block, a.off, none⟩ ∧ a.block < w.heap.size := by
  refine ⟨?_, block_lt_of_cell h⟩
  obtain ⟨b, off, sp⟩ := a
  cases sp with
  | none => rfl
  | some k =>
    exfalso
    unfold World.cell? at h
    simp at h
    split at h <;> simp at h
theorem add_plain (b off j : Nat) : (⟨b, off, none⟩ : Addr).add j = ⟨b, off + j, none⟩ := by
  unfold Addr.add
  by_cases h : j = 0
  · rw [if_pos h, h, Nat.add_zero]
  · rw [if_neg h]
end
end Go.Proofs.YtobhpeockinnjaaGreatDoor
/- A seal that came in, opened. No conditions. -/
namespace Go.Proofs.YtobhpeockinnjaaGreatDoor
open Go Go.RowKit Go.ChangeShapes Go.WideShapes Go.ChangeAt Go.WideMaps Go.WideElems Go.Joins
variable {H : Type} {enc : TypeId × Value → H}
theorem cellsStr : Tryz.prog.cellsOf 9 = 1 := by kernel_rfl
set_option maxRecDepth 100000 in
/-- A field that is a slice of strings. -/
theorem field_strs {W : World} {v : Value} {n : Nat} {y : DataW H × List MemPlace} (hf : DataW.trod enc Tryz.prog W 0 (fun _ => true) true n 27 [v] = some y) :
    ∃ (A : Option Addr) (c : Nat) (l : List ByteArray), v = .slice A l.length c ∧ l.length ≤ 9223372036854775807 ∧ (∀ s ∈ l, s.size ≤ 9223372036854775807) ∧ Strs W W.heap.size A l ∧ l.length ≤ c := by
  rcases open_strings Tryz.underlying27 Tryz.underlying9 (by kernel_rfl) hf with ⟨hcs, _⟩ | ⟨a, len', cap', ss, hcs, _, hl, hm, hz, _, hcell, hws⟩
  · simp only [List.cons.injEq, and_true] at hcs
    subst hcs
    exact ⟨none, 0, [], rfl, by simp, by simp, Strs.nil _ _ _, by simp⟩
  · simp only [List.cons.injEq, and_true] at hcs
    subst hcs
    simp only [if_true] at hz
    unfold maxLen at hm
    have htl : (ss.take len').length = len' := by rw [List.length_take, hz]; omega
    refine ⟨some a, cap', ss.take len', by rw [htl], by rw [htl]; omega, fun s hs => hws s (List.mem_of_mem_take hs), ⟨fun h0 => ?_⟩, by rw [htl]; exact hl⟩
    rw [htl] at h0
    have h00 : a.add 0 = a := by unfold Addr.add; rw [if_pos rfl]
    obtain ⟨e, hb⟩ := addr_of_cell (h00 ▸ hcell 0 (by omega))
    refine ⟨a.block, a.off, by rw [← e], hb, fun j s hj => ?_⟩
    have hjl : j < len' := by
      have := (List.getElem?_eq_some_iff.1 hj).1
      rw [htl] at this; exact this
    have h1 := hcell j (by omega)
    rw [List.getElem?_take, if_pos hjl] at hj
    rw [List.getD_eq_getElem?_getD, hj] at h1
    have e2 : a.add j = ⟨a.block, a.off + j, none⟩ := by
      conv => lhs; rw [e]
      exact add_plain _ _ _
    rw [← e2]
    exact h1
end Go.Proofs.YtobhpeockinnjaaGreatDoor
/- Codes that came in, opened. No conditions. -/
namespace Go.Proofs.YtobhpeockinnjaaGreatDoor
open Go Go.RowKit Go.ChangeShapes Go.WideShapes Go.ChangeAt Go.WideMaps Go.WideElems Go.Joins Go.Deep
variable {H : Type} {enc : TypeId × Value → H}
theorem cIntC : Tryz.prog.cellsOf 3 = 1 := by kernel_rfl
theorem cBoolC : Tryz.prog.cellsOf 4 = 1 := by kernel_rfl
theorem cItem : Tryz.prog.cellsOf 26 = 7 := by kernel_rfl
theorem cItems : Tryz.prog.cellsOf 22 = 1 := by kernel_rfl
theorem cCode : Tryz.prog.cellsOf 24 = 1 := by kernel_rfl
set_option maxRecDepth 100000 in
/-- The cells of an item that came in. -/
theorem trod_item {W : World} {k : Nat} {cs : List Value} {x : DataW H × List MemPlace} (h : DataW.trod enc Tryz.prog W 0 (fun _ => true) true k 26 cs = some x) :
    ∃ v : Dg.It, cs = (itV v).toList ∧ ItW v := by
  obtain ⟨xs, n, _, _, hlen, hxl, hf⟩ := DataW.trod_struct Tryz.underlying26 h
  rw [cItem] at hlen
  match cs, hlen with
  | [c0, c1, c2, c3, c4, c5, c6], _ =>
    match xs, hxl with
    | [y0, y1, y2, y3, y4, y5, y6], _ =>
      have f0 : DataW.trod enc Tryz.prog W 0 (fun _ => true) true n 3 [c0] = some y0 := by simpa [cIntC] using hf 0 _ rfl
      have f1 : DataW.trod enc Tryz.prog W 0 (fun _ => true) true n 9 [c1] = some y1 := by simpa [cellsStr] using hf 1 _ rfl
      have f2 : DataW.trod enc Tryz.prog W 0 (fun _ => true) true n 9 [c2] = some y2 := by simpa [cellsStr] using hf 2 _ rfl
      have f3 : DataW.trod enc Tryz.prog W 0 (fun _ => true) true n 9 [c3] = some y3 := by simpa [cellsStr] using hf 3 _ rfl
      have f4 : DataW.trod enc Tryz.prog W 0 (fun _ => true) true n 9 [c4] = some y4 := by simpa [cellsStr] using hf 4 _ rfl
      have f5 : DataW.trod enc Tryz.prog W 0 (fun _ => true) true n 9 [c5] = some y5 := by simpa [cellsStr] using hf 5 _ rfl
      have f6 : DataW.trod enc Tryz.prog W 0 (fun _ => true) true n 4 [c6] = some y6 := by simpa [cBoolC] using hf 6 _ rfl
      obtain ⟨m, e0, _, w0⟩ := DataW.trod_int Tryz.underlying3 f0
      obtain ⟨b1, e1, _, w1⟩ := DataW.trod_string Tryz.underlying9 f1
      obtain ⟨b2, e2, _, w2⟩ := DataW.trod_string Tryz.underlying9 f2
      obtain ⟨b3, e3, _, w3⟩ := DataW.trod_string Tryz.underlying9 f3
      obtain ⟨b4, e4, _, w4⟩ := DataW.trod_string Tryz.underlying9 f4
      obtain ⟨b5, e5, _, w5⟩ := DataW.trod_string Tryz.underlying9 f5
      obtain ⟨y, e6, _⟩ := DataW.trod_bool Tryz.underlying4 f6
      simp only [List.cons.injEq, and_true] at e0 e1 e2 e3 e4 e5 e6
      subst e0 e1 e2 e3 e4 e5 e6
      obtain ⟨m0, m1⟩ := bounds_i64 w0
      exact ⟨⟨m, b1, b2, b3, b4, b5, y⟩, rfl, ⟨m0, m1, w1, w2, w3, w4, w5⟩⟩
set_option maxRecDepth 100000 in
/-- A slice of items that came in. -/
theorem field_items {W : World} {v : Value} {n : Nat} {y : DataW H × List MemPlace} (hf : DataW.trod enc Tryz.prog W 0 (fun _ => true) true n 22 [v] = some y) :
    ∃ (A : Option Addr) (c : Nat) (l : List Dg.It), v = .slice A l.length c ∧ l.length ≤ 9223372036854775807 ∧ (∀ x ∈ l, ItW x) ∧ Its W W.heap.size A l ∧ l.length ≤ c := by
  rcases open_slice Tryz.underlying22 hf with ⟨hcs, _⟩ | ⟨a, len, cap, m, k, D, Pl, hcs, _, hl, hm, hmm, _, hi⟩
  · simp only [List.cons.injEq, and_true] at hcs
    subst hcs
    exact ⟨none, 0, [], rfl, by simp, by simp, Its.nil _ _ _, by simp⟩
  · simp only [List.cons.injEq, and_true] at hcs
    subst hcs
    simp only [if_true] at hmm
    unfold maxLen at hm
    rw [cItem] at hi
    have h1 : ∀ i, ∃ v : Dg.It, i < len → ItW v ∧ ∀ (j : Nat) (u : Value), (itV v)[j]? = some u → W.cell? ((a.add (i * 7)).add j) = some u := fun i => by
      by_cases hil : i < len
      · obtain ⟨cs', hc, ht⟩ := hi i (by omega)
        obtain ⟨v, hcs, hw⟩ := trod_item ht
        obtain ⟨_, hcl, hat⟩ := World.cells?_some hc
        refine ⟨v, fun _ => ⟨hw, fun j u hj => ?_⟩⟩
        have hj7 : j < 7 := (Array.getElem?_eq_some_iff.1 hj).1
        rw [hat j hj7, hcs, Array.getElem?_toList]
        exact hj
      · exact ⟨⟨0, ⟨#[]⟩, ⟨#[]⟩, ⟨#[]⟩, ⟨#[]⟩, ⟨#[]⟩, false⟩, fun h => absurd h hil⟩
    obtain ⟨f, hfv⟩ := Classical.axiomOfChoice h1
    have hlen : ((List.range len).map f).length = len := by rw [List.length_map, List.length_range]
    refine ⟨some a, cap, (List.range len).map f, by rw [hlen], by rw [hlen]; omega, fun v hv => ?_, ⟨fun h0 => ?_⟩, by rw [hlen]; exact hl⟩
    · obtain ⟨i, hir, rfl⟩ := List.mem_map.1 hv
      exact (hfv i (List.mem_range.1 hir)).1
    · rw [hlen] at h0
      obtain ⟨_, hc0⟩ := hfv 0 h0
      have h00 : (a.add (0 * 7)).add 0 = a := by unfold Addr.add; simp
      obtain ⟨e, hb⟩ := addr_of_cell (h00 ▸ hc0 0 _ rfl)
      refine ⟨a.block, a.off, by rw [← e], hb, fun j v hj i u hu => ?_⟩
      have hjl : j < len := by
        have := (List.getElem?_eq_some_iff.1 hj).1
        rw [hlen] at this; exact this
      rw [List.getElem?_map, List.getElem?_range hjl] at hj
      obtain rfl : f j = v := by simpa using hj
      obtain ⟨_, hc⟩ := hfv j hjl
      have e2 : (a.add (j * 7)).add i = ⟨a.block, a.off + j * 7 + i, none⟩ := by
        rw [e]
        rw [add_plain, add_plain]
      rw [← e2]
      exact hc i u hu
set_option maxRecDepth 100000 in
/-- A code. -/
theorem open_code {W : World} {v : Value} {d : DataW H} {p : List MemPlace} {base : Nat} (hv : Value.okWide Tryz.prog W .any base 24 v) (h : DataW.Trod enc Tryz.prog W 0 (fun _ => true) true 24 v d p) :
    ∃ (A : Option Addr) (c : Nat) (l : List Dg.It), v = .agg #[.slice A l.length c] ∧ l.length ≤ 9223372036854775807 ∧ (∀ x ∈ l, ItW x) ∧ Its W W.heap.size A l ∧ l.length ≤ c := by
  obtain ⟨cs, rfl, hsz⟩ := okWide_struct Tryz.underlying24 hv
  obtain ⟨l⟩ := cs
  match l, hsz.trans cCode with
  | [c0], _ =>
    obtain ⟨fuel, hf0⟩ := h
    obtain ⟨xs, n, _, _, _, hxl, hf⟩ := DataW.trod_struct Tryz.underlying24 hf0
    match xs, hxl with
    | [y0], _ =>
      have f0 : DataW.trod enc Tryz.prog W 0 (fun _ => true) true n 22 [c0] = some y0 := by simpa [Value.cells, cItems] using hf 0 _ rfl
      obtain ⟨A, c, l, rfl, a1, a2, a3, a4⟩ := field_items f0
      exact ⟨A, c, l, rfl, a1, a2, a3, a4⟩
end Go.Proofs.YtobhpeockinnjaaGreatDoor
/- Things told that came in, opened. No conditions. -/
namespace Go.Proofs.YtobhpeockinnjaaGreatDoor
open Go Go.RowKit Go.ChangeShapes Go.WideShapes Go.ChangeAt Go.WideMaps Go.WideElems Go.Joins Go.Deep
variable {H : Type} {enc : TypeId × Value → H}
theorem cTold : Tryz.prog.cellsOf 46 = 4 := by kernel_rfl
structure TdW (x : Td) : Prop where
  d0 : -9223372036854775808 ≤ x.day
  d1 : x.day ≤ 9223372036854775807
  c0 : -9223372036854775808 ≤ x.count
  c1 : x.count ≤ 9223372036854775807
  rz : x.root.size ≤ 9223372036854775807
set_option maxRecDepth 100000 in
/-- The cells of a thing told that came in. -/
theorem trod_told {W : World} {k : Nat} {cs : List Value} {x : DataW H × List MemPlace} (h : DataW.trod enc Tryz.prog W 0 (fun _ => true) true k 46 cs = some x) :
    ∃ v : Td, cs = tdV v ∧ TdW v := by
  obtain ⟨xs, n, _, _, hlen, hxl, hf⟩ := DataW.trod_struct Tryz.underlying46 h
  rw [cTold] at hlen
  match cs, hlen with
  | [c0, c1, c2, c3], _ =>
    match xs, hxl with
    | [y0, y1, y2, y3], _ =>
      have f0 : DataW.trod enc Tryz.prog W 0 (fun _ => true) true n 3 [c0] = some y0 := by simpa [cIntC] using hf 0 _ rfl
      have f1 : DataW.trod enc Tryz.prog W 0 (fun _ => true) true n 3 [c1] = some y1 := by simpa [cIntC] using hf 1 _ rfl
      have f2 : DataW.trod enc Tryz.prog W 0 (fun _ => true) true n 9 [c2] = some y2 := by simpa [cellsStr] using hf 2 _ rfl
      have f3 : DataW.trod enc Tryz.prog W 0 (fun _ => true) true n 4 [c3] = some y3 := by simpa [cBoolC] using hf 3 _ rfl
      obtain ⟨m, e0, _, w0⟩ := DataW.trod_int Tryz.underlying3 f0
      obtain ⟨m', e1, _, w1⟩ := DataW.trod_int Tryz.underlying3 f1
      obtain ⟨b2, e2, _, w2⟩ := DataW.trod_string Tryz.underlying9 f2
      obtain ⟨y, e3, _⟩ := DataW.trod_bool Tryz.underlying4 f3
      simp only [List.cons.injEq, and_true] at e0 e1 e2 e3
      subst e0 e1 e2 e3
      obtain ⟨m0, m1⟩ := bounds_i64 w0
      obtain ⟨k0, k1⟩ := bounds_i64 w1
      exact ⟨⟨m, m', b2, y⟩, rfl, ⟨m0, m1, k0, k1, w2⟩⟩
end Go.Proofs.YtobhpeockinnjaaGreatDoor
/- The law ProofSigned. No conditions but those that each theorem states. -/
namespace Go.Proofs.YtobhpeockinnjaaGreatDoor
open Go Go.RowKit Go.Sort Go.Maps
attribute [local go_sem] Oper.semAt_some
/-- The thing told in its variable. -/
structure TR (b : Nat) (x : Td) (X : World) : Prop where
  row : X.heap[b]? = some (.cells #[.int .i64 x.day, .int .i64 x.count, .string x.root, .bool x.wrong] 46 (0, 0))
  env : Env X
theorem TR.next {b : Nat} {x : Td} {X X' : World} (h : TR b x X) (hb : Below X.heap.size X X') : TR b x X' := ⟨iNext h.row hb, h.env.next hb⟩
theorem TR.cells {b : Nat} {x : Td} {X : World} (h : TR b x X) : X.cell? ⟨b, 0, none⟩ = some (.int .i64 x.day) ∧ X.cell? ⟨b, 1, none⟩ = some (.int .i64 x.count) ∧ X.cell? ⟨b, 2, none⟩ = some (.string x.root) ∧ X.cell? ⟨b, 3, none⟩ = some (.bool x.wrong) := by
  refine ⟨?_, ?_, ?_, ?_⟩ <;> (rw [cell_of_row _ _ _ _ _ (0, 0) h.row]; rfl)
theorem Tds.one (w : World) (x : Td) : Tds (w.alloc (.cells #[.int .i64 x.day, .int .i64 x.count, .string x.root, .bool x.wrong] 46)) (w.alloc (.cells #[.int .i64 x.day, .int .i64 x.count, .string x.root, .bool x.wrong] 46)).heap.size (some ⟨w.heap.size, 0, none⟩) [x] :=
  ⟨fun _ => ⟨w.heap.size, 0, rfl, by simp, fun j y hj i u hu => by
    rw [cell_of_row _ _ _ _ _ (0, 0) (heap_alloc_new w _)]
    match j, hj with
    | 0, hj =>
      cases hj
      simp only [Nat.zero_mul, Nat.zero_add]
      rw [← Array.getElem?_toList]
      exact hu⟩⟩
end Go.Proofs.YtobhpeockinnjaaGreatDoor
/- The law ProofOrders. No conditions but those that each theorem states. -/
namespace Go.Proofs.YtobhpeockinnjaaGreatDoor
open Go Go.RowKit Go.Sort Go.Maps
attribute [local go_sem] Oper.semAt_some
theorem Tds.cells {w : World} {B b off : Nat} {l : List Td} (h : Tds w B (some ⟨b, off, none⟩) l) {k : Nat} (hk : k < l.length) (x : Td) (hx : l[k] = x) :
    w.cell? ⟨b, off + k * 4, none⟩ = some (.int .i64 x.day) ∧ w.cell? ⟨b, off + k * 4 + 1, none⟩ = some (.int .i64 x.count) ∧ w.cell? ⟨b, off + k * 4 + 2, none⟩ = some (.string x.root) ∧ w.cell? ⟨b, off + k * 4 + 3, none⟩ = some (.bool x.wrong) := by
  subst hx
  obtain ⟨b', off', e, _, h0, h1, h2, h3⟩ := h.get hk
  cases e
  exact ⟨h0, h1, h2, h3⟩
/-- Blocks that lie apart: a variable's, two readers' and their maps'. -/
structure Ap (g ba ma bb mb : Nat) : Prop where
  ga : g < ma
  gb : g < mb
  ab : ba ≠ mb
  ba : bb ≠ ma
  mm : ma ≠ mb
/-- What the law holds: the proof in its variable, two readers. -/
structure OS (w0 : World) (p : Pf) (A2 : Option Addr) (m2 c2 : Nat) (K : ByteArray) (ba ma : Nat) (lr : List Dy) (bb mb : Nat) (ls : List Dy) (X : World) : Prop where
  r1 : X.heap[w0.heap.size]? = some (.cells #[.int .i64 p.count, .int .i64 p.idx, .int .i64 p.it.kind, .string p.it.id, .string p.it.parent, .string p.it.number, .string p.it.north, .string p.it.south, .bool p.it.gone, .slice A2 m2 c2] 29 (0, 0))
  up : Below w0.heap.size w0 X
  ra : Rd ba ma K lr X
  rb : Rd bb mb K ls X
theorem OS.below {w0 : World} {p : Pf} {A2 : Option Addr} {m2 c2 : Nat} {K : ByteArray} {ba ma : Nat} {lr : List Dy} {bb mb : Nat} {ls : List Dy} {X X' : World} (h : OS w0 p A2 m2 c2 K ba ma lr bb mb ls X) (hb : Below X.heap.size X X') : OS w0 p A2 m2 c2 K ba ma lr bb mb ls X' :=
  ⟨iNext h.r1 hb, bnext h.up hb, h.ra.below hb, h.rb.below hb⟩
/-- .. and a seal in its variable. -/
structure OT (w0 : World) (p : Pf) (A2 : Option Addr) (m2 c2 : Nat) (K : ByteArray) (ba ma : Nat) (lr : List Dy) (bb mb : Nat) (ls : List Dy) (s1 : Nat) (A : Option Addr) (c : Nat) (A' : Option Addr) (c' : Nat) (SG : List ByteArray) (X : World) : Prop where
  o : OS w0 p A2 m2 c2 K ba ma lr bb mb ls X
  s : SR s1 A c A' c' SG X
theorem OT.below {w0 : World} {p : Pf} {A2 : Option Addr} {m2 c2 : Nat} {K : ByteArray} {ba ma : Nat} {lr : List Dy} {bb mb : Nat} {ls : List Dy} {s1 : Nat} {A : Option Addr} {c : Nat} {A' : Option Addr} {c' : Nat} {SG : List ByteArray} {X X' : World} (h : OT w0 p A2 m2 c2 K ba ma lr bb mb ls s1 A c A' c' SG X) (hb : Below X.heap.size X X') : OT w0 p A2 m2 c2 K ba ma lr bb mb ls s1 A c A' c' SG X' := ⟨h.o.below hb, h.s.next hb⟩
/-- .. and days. -/
structure OZ (w0 : World) (p : Pf) (A2 : Option Addr) (m2 c2 : Nat) (K : ByteArray) (ba ma : Nat) (lr : List Dy) (bb mb : Nat) (ls : List Dy) (AD : Option Addr) (L : List Int) (X : World) : Prop where
  o : OS w0 p A2 m2 c2 K ba ma lr bb mb ls X
  z : Zs X X.heap.size AD L
theorem OZ.below {w0 : World} {p : Pf} {A2 : Option Addr} {m2 c2 : Nat} {K : ByteArray} {ba ma : Nat} {lr : List Dy} {bb mb : Nat} {ls : List Dy} {AD : Option Addr} {L : List Int} {X X' : World} (h : OZ w0 p A2 m2 c2 K ba ma lr bb mb ls AD L X) (hb : Below X.heap.size X X') : OZ w0 p A2 m2 c2 K ba ma lr bb mb ls AD L X' := ⟨h.o.below hb, h.z.keep hb⟩
end Go.Proofs.YtobhpeockinnjaaGreatDoor
/- The law ProofMatchesReference. No conditions but those that each theorem states. -/
namespace Go.Proofs.YtobhpeockinnjaaGreatDoor
open Go Go.RowKit Go.Sort Go.Maps
attribute [local go_sem] Oper.semAt_some
/-- What the law holds: the code and the proof in their variables. -/
structure QS (w0 : World) (A : Option Addr) (n c : Nat) (p : Pf) (A2 : Option Addr) (m2 c2 : Nat) (X : World) : Prop where
  r1 : X.heap[w0.heap.size]? = some (.cells #[.slice A n c] 24 (0, 0))
  r2 : X.heap[w0.heap.size + 1]? = some (.cells #[.int .i64 p.count, .int .i64 p.idx, .int .i64 p.it.kind, .string p.it.id, .string p.it.parent, .string p.it.number, .string p.it.north, .string p.it.south, .bool p.it.gone, .slice A2 m2 c2] 29 (0, 0))
  up : Below w0.heap.size w0 X
theorem QS.below {w0 : World} {A : Option Addr} {n c : Nat} {p : Pf} {A2 : Option Addr} {m2 c2 : Nat} {X X' : World} (h : QS w0 A n c p A2 m2 c2 X) (hb : Below X.heap.size X X') : QS w0 A n c p A2 m2 c2 X' := ⟨iNext h.r1 hb, iNext h.r2 hb, bnext h.up hb⟩
theorem QS.off {w0 : World} {A : Option Addr} {n c : Nat} {p : Pf} {A2 : Option Addr} {m2 c2 : Nat} {X X' : World} (h : QS w0 A n c p A2 m2 c2 X) {m : Nat} (ho : Off [m] X X') (h0 : w0.heap.size + 1 < m) : QS w0 A n c p A2 m2 c2 X' :=
  ⟨ho.row h.r1 (by simp; omega), ho.row h.r2 (by simp; omega), h.up.trans (ho.below (B := w0.heap.size) h.up.size (by simp; omega))⟩
/-- .. two proofs. -/
structure QP (w0 : World) (A : Option Addr) (n c : Nat) (p : Pf) (A2 : Option Addr) (m2 c2 : Nat) (P0 : Pf) (pn : Nat) (b1 b2 : Nat) (A9 : Option Addr) (c9 : Nat) (B9 : Option Addr) (d9 : Nat) (X : World) : Prop where
  q : QS w0 A n c p A2 m2 c2 X
  p1 : X.heap[b1]? = some (.cells #[.int .i64 P0.count, .int .i64 P0.idx, .int .i64 P0.it.kind, .string P0.it.id, .string P0.it.parent, .string P0.it.number, .string P0.it.north, .string P0.it.south, .bool P0.it.gone, .slice A9 pn c9] 29 (0, 0))
  p2 : X.heap[b2]? = some (.cells #[.int .i64 P0.count, .int .i64 P0.idx, .int .i64 P0.it.kind, .string P0.it.id, .string P0.it.parent, .string P0.it.number, .string P0.it.north, .string P0.it.south, .bool P0.it.gone, .slice B9 pn d9] 29 (0, 0))
  s1 : Strs X X.heap.size A9 P0.path
  s2 : Strs X X.heap.size B9 P0.path
theorem QP.below {w0 : World} {A : Option Addr} {n c : Nat} {p : Pf} {A2 : Option Addr} {m2 c2 : Nat} {P0 : Pf} {pn b1 b2 : Nat} {A9 : Option Addr} {c9 : Nat} {B9 : Option Addr} {d9 : Nat} {X X' : World} (h : QP w0 A n c p A2 m2 c2 P0 pn b1 b2 A9 c9 B9 d9 X) (hb : Below X.heap.size X X') : QP w0 A n c p A2 m2 c2 P0 pn b1 b2 A9 c9 B9 d9 X' :=
  ⟨h.q.below hb, iNext h.p1 hb, iNext h.p2 hb, keepS h.s1 hb, keepS h.s2 hb⟩
/-- .. a seal. -/
structure QT (w0 : World) (A : Option Addr) (n c : Nat) (p : Pf) (A2 : Option Addr) (m2 c2 : Nat) (sb : Nat) (A1 : Option Addr) (e1 : Nat) (B1 : Option Addr) (d1 : Nat) (X : World) : Prop where
  q : QS w0 A n c p A2 m2 c2 X
  s : X.heap[sb]? = some (.cells #[.int .i64 0, .slice A1 18 e1, .slice B1 0 d1] 42 (0, 0))
theorem QT.below {w0 : World} {A : Option Addr} {n c : Nat} {p : Pf} {A2 : Option Addr} {m2 c2 : Nat} {sb : Nat} {A1 : Option Addr} {e1 : Nat} {B1 : Option Addr} {d1 : Nat} {X X' : World} (h : QT w0 A n c p A2 m2 c2 sb A1 e1 B1 d1 X) (hb : Below X.heap.size X X') : QT w0 A n c p A2 m2 c2 sb A1 e1 B1 d1 X' := ⟨h.q.below hb, iNext h.s hb⟩
theorem QT.off {w0 : World} {A : Option Addr} {n c : Nat} {p : Pf} {A2 : Option Addr} {m2 c2 : Nat} {sb : Nat} {A1 : Option Addr} {e1 : Nat} {B1 : Option Addr} {d1 : Nat} {X X' : World} (h : QT w0 A n c p A2 m2 c2 sb A1 e1 B1 d1 X) {m : Nat} (ho : Off [m] X X') (h0 : w0.heap.size + 1 < m) (h1 : sb ≠ m) : QT w0 A n c p A2 m2 c2 sb A1 e1 B1 d1 X' := ⟨h.q.off ho h0, ho.row h.s (by simpa using h1)⟩
theorem make_path {l : List Dg.It} {id : ByteArray} {P0 : Pf} {E0 : Int} (hl : l.length ≤ 20) (h : makeE l id = (P0, E0)) : P0.path.length ≤ 1048576 := by
  by_cases hv : Dg.validC l = true
  · by_cases hx : ∃ j, ∃ hj : j < l.length, l[j].id = id
    · obtain ⟨j, hj, rfl⟩ := hx
      rw [make_at hv hj] at h
      split at h
      · injection h with h _
        rw [← h]; exact Nat.zero_le _
      · rename_i hg
        injection h with h _
        rw [← h]
        show (Dg.path (Dg.leavesOf l) (idxN l j)).length ≤ _
        have h9 := idxN_mono l (j := j + 1) (k := l.length) (by omega)
        rw [idxN_succ hj, if_neg hg, idxN_all] at h9
        refine path_few _ _ ?_ (by omega)
        have h8 := idxN_le l l.length
        rw [idxN_all] at h8
        omega
    · rw [make_none hv fun j hj e => hx ⟨j, hj, e⟩] at h
      injection h with h _
      rw [← h]; exact Nat.zero_le _
  · have hv' : Dg.validC l = false := by simpa using hv
    unfold makeE at h
    rw [if_pos hv'] at h
    injection h with h _
    rw [← h]; exact Nat.zero_le _
/-- Blocks that lie apart. -/
structure Ar (g ba ma bb : Nat) : Prop where
  ga : g + 1 < ma
  gb : g + 1 < bb
  ab : ba ≠ bb
  mb : ma ≠ bb
set_option maxRecDepth 100000 in
set_option maxHeartbeats 16000000 in
theorem law_reference44 (l : List Dg.It) (A : Option Addr) (n c : Nat) (hl : l.length = n) (hw : ∀ x ∈ l, ItW x) (hn : n ≤ 9223372036854775807) (hnc : n ≤ c) (id root : ByteArray) (hid : id.size + root.size ≤ 9223372036854775807)
    (p : Pf) (A2 : Option Addr) (m2 c2 : Nat) (hm2 : p.path.length = m2) (hc2 : m2 ≤ c2) (hpz : m2 ≤ 9223372036854775807) (hpc0 : -9223372036854775808 ≤ p.count) (hpc1 : p.count ≤ 9223372036854775807) (hpt : ItW p.it) (hsum : p.it.id.size + p.it.parent.size + p.it.number.size ≤ 9223372036854775807)
    (day : Int) (dy0 : -9223372036854775808 ≤ day) (dy1 : day ≤ 9223372036854775807) (lt : List Td) (T : Option Addr) (nt ct : Nat) (hlt : lt.length = nt) (hnt : nt ≤ 9223372036854775807) (hwt : ∀ x ∈ lt, TdW x)
    (w : World) (he : Env w) (hI : Its w w.heap.size A l) (hP : Strs w w.heap.size A2 p.path) (hT : Tds w w.heap.size T lt) :
    Calls Tryz.prog 3 #[.agg #[.slice A n c], .string id, .string root, .agg #[.int .i64 p.count, .int .i64 p.idx, .int .i64 p.it.kind, .string p.it.id, .string p.it.parent, .string p.it.number, .string p.it.north, .string p.it.south, .bool p.it.gone, .slice A2 m2 c2], .int .i64 day, .slice T nt ct] w fun e w' => e = .returned (.bool true) ∧ Below w.heap.size w w' := by
  have hmx : Tryz.prog.follows .mixedOrders = true := by kernel_rfl
  have hx0 := Below.news (Below.refl w.heap.size w) (.cells #[.slice A n c] 24)
  have hx1 := Below.news (Below.refl _ (w.alloc (.cells #[.slice A n c] 24))) (.cells #[.int .i64 p.count, .int .i64 p.idx, .int .i64 p.it.kind, .string p.it.id, .string p.it.parent, .string p.it.number, .string p.it.north, .string p.it.south, .bool p.it.gone, .slice A2 m2 c2] 29)
  have hr1 := heap_alloc_new (w.alloc (.cells #[.slice A n c] 24)) (.cells #[.int .i64 p.count, .int .i64 p.idx, .int .i64 p.it.kind, .string p.it.id, .string p.it.parent, .string p.it.number, .string p.it.north, .string p.it.south, .bool p.it.gone, .slice A2 m2 c2] 29)
  have hs1 : (w.alloc (.cells #[.slice A n c] 24)).heap.size = w.heap.size + 1 := by simp
  rw [hs1] at hr1
  have hS1 : QS w A n c p A2 m2 c2 ((w.alloc (.cells #[.slice A n c] 24)).alloc (.cells #[.int .i64 p.count, .int .i64 p.idx, .int .i64 p.it.kind, .string p.it.id, .string p.it.parent, .string p.it.number, .string p.it.north, .string p.it.south, .bool p.it.gone, .slice A2 m2 c2] 29)) := ⟨iNext (heap_alloc_new w _) hx1, hr1, bnext hx0 hx1⟩
  have HL := hide hl; have HW := hide hw; have HM2 := hide hm2; have HT := hide hT; have HP := hide hP; have HI := hide hI; have HLT := hide hlt; have HWT := hide hwt; have HC2 := hide hc2
  have HPC0 := hide hpc0; have HPC1 := hide hpc1; have HD0 := hide dy0; have HD1 := hide dy1
  clear hl hw hm2 hT hP hI hlt hwt hc2 hpc0 hpc1 dy0 dy1 hx0 hx1 hr1 hs1
  go_enter Tryz.func3, Tryz.ntmps3
  go_wp2_with fail
  generalize (w.alloc (.cells #[.slice A n c] 24)).alloc (.cells #[.int .i64 p.count, .int .i64 p.idx, .int .i64 p.it.kind, .string p.it.id, .string p.it.parent, .string p.it.number, .string p.it.north, .string p.it.south, .bool p.it.gone, .slice A2 m2 c2] 29) = w1 at *
  refine (head44_of w1 (he.next hS1.up)).mono ?_
  rintro e w2 ⟨rfl, hx2⟩
  have hS2 := hS1.below hx2
  clear hS1 hx2
  have hc1 := iCells0 hS2.r1
  obtain ⟨F, hF⟩ : ∃ F, fewC l 20 = F := ⟨_, rfl⟩
  go_wp2_with fail
  refine (small_of l A n c HL.out hn w2 ((HI.out.below hS2.up).more hS2.up.size) F hF).mono ?_
  rintro e w3 ⟨rfl, hx3⟩
  have hS3 := hS2.below hx3
  clear hS2 hx3 hc1
  cases F with
  | false =>
    clear hF
    go_wp2
    go_ret
    exact ⟨rfl, hS3.up⟩
  | true =>
    obtain ⟨n20, z20⟩ := kfew hF
    rw [HL.out] at n20
    have ZL := hide z20
    clear hF z20
    obtain ⟨G, hG⟩ : ∃ G, fewP p = G := ⟨_, rfl⟩
    obtain ⟨z0, z1, z2, z3, z4, z5, z6, z7, z8, z9⟩ := jCells10 hS3.r2
    go_wp2_with fail
    refine (rfewP_of p A2 m2 c2 HM2.out hpz ⟨hpt.iz, hpt.pz, hpt.nz⟩ hsum w3 ((HP.out.below hS3.up).more hS3.up.size) G hG).mono ?_
    rintro e w4 ⟨rfl, hx4⟩
    have hS4 := hS3.below hx4
    clear hS3 hx4 z0 z1 z2 z3 z4 z5 z6 z7 z8 z9 hsum hpt
    cases G with
    | false =>
      clear hG
      go_wp2
      go_ret
      exact ⟨rfl, hS4.up⟩
    | true =>
      obtain ⟨PZ, p30, PP⟩ := fewP_leaf hG
      rw [HM2.out] at p30
      have HPZ := hide PZ; have HPP := hide (show ∀ s ∈ p.path, s.size ≤ 1048576 from fun s hs => Nat.le_trans (PP s hs) (by decide))
      clear hG PZ PP
      have hwk : IntKind.i64.wrap ((id.size : Int) + (root.size : Int)) = (id.size : Int) + (root.size : Int) := IntWalk.i64_in _ (by omega)
      by_cases h300 : (300 : Int) < (id.size : Int) + (root.size : Int)
      · go_wp2
        go_ret
        exact ⟨rfl, hS4.up⟩
      have hrz : root.size ≤ 300 := by omega
      obtain ⟨F, hF⟩ : ∃ F, shortL lt 8 = F := ⟨_, rfl⟩
      go_wp2_with fail
      refine (short_of lt T nt ct HLT.out hnt 8 w4 ((HT.out.below hS4.up).more hS4.up.size) (fun x hx => (HWT.out x hx).rz) F hF).mono ?_
      rintro e w5 ⟨rfl, hx5⟩
      have hS5 := hS4.below hx5
      clear hS4 hx5
      cases F with
      | false =>
        clear hF
        go_wp2
        go_ret
        exact ⟨rfl, hS5.up⟩
      | true =>
        obtain ⟨n8, z8⟩ := shortL_spec hF
        rw [HLT.out] at n8
        have hn8 : nt ≤ 8 := by omega
        have HZ := hide z8
        clear hF z8 n8
        obtain ⟨P0, E0, hME⟩ : ∃ P E, makeE l id = (P, E) := ⟨_, _, rfl⟩
        obtain ⟨pn, hpn⟩ : ∃ pn, P0.path.length = pn := ⟨_, rfl⟩
        have hpn2 : pn ≤ 1048576 := by
          rw [← hpn]
          exact make_path (by rw [HL.out]; omega) hME
        have HME := hide hME; have HPN := hide hpn
        clear hME hpn
        have hc1 := iCells0 hS5.r1
        go_wp2_with fail
        refine (pmake_of l A n c HL.out HW.out (by omega) hnc (few_up2 ZL.out (by decide)) id w5 (he.next hS5.up) ((HI.out.below hS5.up).more hS5.up.size) P0 E0 HME.out).mono ?_
        rintro e w6 ⟨A9, c9, rfl, _, hs6, hx6⟩
        simp only [HPN.out]
        have hx7 := Below.news (Below.refl w6.heap.size w6) (.cells #[.int .i64 P0.count, .int .i64 P0.idx, .int .i64 P0.it.kind, .string P0.it.id, .string P0.it.parent, .string P0.it.number, .string P0.it.north, .string P0.it.south, .bool P0.it.gone, .slice A9 pn c9] 29)
        have hr7 := heap_alloc_new w6 (.cells #[.int .i64 P0.count, .int .i64 P0.idx, .int .i64 P0.it.kind, .string P0.it.id, .string P0.it.parent, .string P0.it.number, .string P0.it.north, .string P0.it.south, .bool P0.it.gone, .slice A9 pn c9] 29)
        have hS7 := (hS5.below hx6).below hx7
        have hs7 := keepS hs6 hx7
        clear hS5 hx6 hx7 hs6 hc1
        go_upto_region 5 with (fail)
        generalize w6.alloc (.cells #[.int .i64 P0.count, .int .i64 P0.idx, .int .i64 P0.it.kind, .string P0.it.id, .string P0.it.parent, .string P0.it.number, .string P0.it.north, .string P0.it.south, .bool P0.it.gone, .slice A9 pn c9] 29) = w7 at *
        generalize w6.heap.size = b1 at *
        have hc1 := iCells0 hS7.r1
        go_wp2_with fail
        refine (rmake_of l A n c HL.out HW.out (by omega) (few_up2 ZL.out (by decide)) id w7 ((HI.out.below hS7.up).more hS7.up.size) P0 E0 HME.out).mono ?_
        rintro e w8 ⟨B9, d9, rfl, _, hs8, hx8⟩
        simp only [HPN.out]
        have hx9 := Below.news (Below.refl w8.heap.size w8) (.cells #[.int .i64 P0.count, .int .i64 P0.idx, .int .i64 P0.it.kind, .string P0.it.id, .string P0.it.parent, .string P0.it.number, .string P0.it.north, .string P0.it.south, .bool P0.it.gone, .slice B9 pn d9] 29)
        have hr9 := heap_alloc_new w8 (.cells #[.int .i64 P0.count, .int .i64 P0.idx, .int .i64 P0.it.kind, .string P0.it.id, .string P0.it.parent, .string P0.it.number, .string P0.it.north, .string P0.it.south, .bool P0.it.gone, .slice B9 pn d9] 29)
        have hS9 : QP w A n c p A2 m2 c2 P0 pn b1 w8.heap.size A9 c9 B9 d9 (w8.alloc (.cells #[.int .i64 P0.count, .int .i64 P0.idx, .int .i64 P0.it.kind, .string P0.it.id, .string P0.it.parent, .string P0.it.number, .string P0.it.north, .string P0.it.south, .bool P0.it.gone, .slice B9 pn d9] 29)) := ⟨(hS7.below hx8).below hx9, iNext (iNext hr7 hx8) hx9, hr9, keepS (keepS hs7 hx8) hx9, keepS hs8 hx9⟩
        clear hS7 hr7 hs7 hx8 hx9 hr9 hs8 hc1
        have hee : ((E0 : Int) != E0) = false := bne_self_eq_false _
        obtain ⟨C, hC⟩ : ∃ C, checkP root p = C := ⟨_, rfl⟩
        obtain ⟨MG, hMG⟩ : ∃ M, msgB day p.count root = M := ⟨_, rfl⟩
        have HC := hide hC; have HMG := hide hMG
        clear hC hMG
        go_upto_region 6 with (fail)
        generalize w8.alloc (.cells #[.int .i64 P0.count, .int .i64 P0.idx, .int .i64 P0.it.kind, .string P0.it.id, .string P0.it.parent, .string P0.it.number, .string P0.it.north, .string P0.it.south, .bool P0.it.gone, .slice B9 pn d9] 29) = w9 at *
        generalize w8.heap.size = b2 at *
        refine wp_region_noPanic ?_
        refine wp_region_L (QP w A n c p A2 m2 c2 P0 pn b1 b2 A9 c9 B9 d9) 31 hmx ?_
        have hdr := (Below.refl w9.heap.size w9).drew
        have hS21 : (QP w A n c p A2 m2 c2 P0 pn b1 b2 A9 c9 B9 d9) w9.drew := hS9.below hdr
        clear hdr hS9
        generalize w9.drew = w21 at *
        refine wpAnyL_take (i := 0) (f0 := 33) (v := ?_) rfl (by decide +kernel) (by decide +kernel) (by decide +kernel) (by decide +kernel) (by decide +kernel) (fun _ _ _ h => h) (Or.inl ⟨by rfl, ?_⟩) hS21 ?_
        rotate_left
        · intro wS hS; go_simp; (try with_reducible rfl)
        simp only [Act.put, List.getElem_toArray, List.getElem_cons_zero, List.setIfInBounds_toArray, List.set_cons_succ, List.set_cons_zero]
        refine wpAnyL_take (i := 1) (f0 := 33) (v := ?_) rfl (by decide +kernel) (by decide +kernel) (by decide +kernel) (by decide +kernel) (by decide +kernel) (fun _ _ _ h => h) (Or.inl ⟨by rfl, ?_⟩) hS21 ?_
        rotate_left
        · intro wS hS; go_simp; (try with_reducible rfl)
        simp only [Act.put, List.getElem_toArray, List.getElem_cons_succ, List.getElem_cons_zero, List.setIfInBounds_toArray, List.set_cons_succ, List.set_cons_zero]
        refine wpAnyL_take (i := 2) (f0 := 33) (v := ?_) rfl (by decide +kernel) (by decide +kernel) (by decide +kernel) (by decide +kernel) (by decide +kernel) (fun _ _ _ h => h) (Or.inl ⟨by rfl, ?_⟩) hS21 ?_
        rotate_left
        · intro wS hS; go_simp; (try with_reducible rfl)
        simp only [Act.put, List.getElem_toArray, List.getElem_cons_succ, List.getElem_cons_zero, List.setIfInBounds_toArray, List.set_cons_succ, List.set_cons_zero]
        refine wpAnyL_take (i := 3) (f0 := 33) (v := ?_) rfl (by decide +kernel) (by decide +kernel) (by decide +kernel) (by decide +kernel) (by decide +kernel) (fun _ _ _ h => h) (Or.inl ⟨by rfl, ?_⟩) hS21 ?_
        rotate_left
        · intro wS hS; go_simp; (try with_reducible rfl)
        simp only [Act.put, List.getElem_toArray, List.getElem_cons_succ, List.getElem_cons_zero, List.setIfInBounds_toArray, List.set_cons_succ, List.set_cons_zero]
        refine wpAnyL_take (i := 4) (f0 := 33) (v := ?_) rfl (by decide +kernel) (by decide +kernel) (by decide +kernel) (by decide +kernel) (by decide +kernel) (fun _ _ _ h => h) (Or.inl ⟨by rfl, ?_⟩) hS21 ?_
        rotate_left
        · intro wS hS; obtain ⟨z0, z1, z2, z3, z4, z5, z6, z7, z8, z9⟩ := jCells10 hS.p1; go_simp; (try with_reducible rfl)
        simp only [Act.put, List.getElem_toArray, List.getElem_cons_succ, List.getElem_cons_zero, List.setIfInBounds_toArray, List.set_cons_succ, List.set_cons_zero]
        refine wpAnyL_take (i := 5) (f0 := 33) (v := ?_) rfl (by decide +kernel) (by decide +kernel) (by decide +kernel) (by decide +kernel) (by decide +kernel) (fun _ _ _ h => h) (Or.inl ⟨by rfl, ?_⟩) hS21 ?_
        rotate_left
        · intro wS hS; obtain ⟨z0, z1, z2, z3, z4, z5, z6, z7, z8, z9⟩ := jCells10 hS.p2; go_simp; (try with_reducible rfl)
        simp only [Act.put, List.getElem_toArray, List.getElem_cons_succ, List.getElem_cons_zero, List.setIfInBounds_toArray, List.set_cons_succ, List.set_cons_zero]
        refine wpAnyL_one (i := 6) (by decide +kernel) (by rfl) (fun K9 hK => ?_)
        rw [if_pos (by rfl)]
        go_simp
        refine (rsame_of P0 pn A9 B9 c9 d9 HPN.out hpn2 w21 hS21.s1 hS21.s2).mono ?_
        rintro e w22 ⟨rfl, hx22⟩
        have hS22 : (QP w A n c p A2 m2 c2 P0 pn b1 b2 A9 c9 B9 d9) w22 := hS21.below hx22
        refine hK.out _ _ (Or.inr hS22) ?_
        clear hK K9 hS21 hx22
        try simp only [Act.put, List.getElem_toArray, List.getElem_cons_succ, List.getElem_cons_zero, List.setIfInBounds_toArray, List.set_cons_succ, List.set_cons_zero]
        refine wpAnyL_take (i := 7) (f0 := 33) (v := ?_) rfl (by decide +kernel) (by decide +kernel) (by decide +kernel) (by decide +kernel) (by decide +kernel) (fun _ _ _ h => h) (Or.inl ⟨by rfl, ?_⟩) hS22 ?_
        rotate_left
        · intro wS hS; go_simp; (try with_reducible rfl)
        simp only [Act.put, List.getElem_toArray, List.getElem_cons_succ, List.getElem_cons_zero, List.setIfInBounds_toArray, List.set_cons_succ, List.set_cons_zero]
        refine wpAnyL_take (i := 8) (f0 := 33) (v := ?_) rfl (by decide +kernel) (by decide +kernel) (by decide +kernel) (by decide +kernel) (by decide +kernel) (fun _ _ _ h => h) (Or.inl ⟨by rfl, ?_⟩) hS22 ?_
        rotate_left
        · intro wS hS; go_simp; (try with_reducible rfl)
        simp only [Act.put, List.getElem_toArray, List.getElem_cons_succ, List.getElem_cons_zero, List.setIfInBounds_toArray, List.set_cons_succ, List.set_cons_zero]
        refine wpAnyL_take (i := 9) (f0 := 33) (v := ?_) rfl (by decide +kernel) (by decide +kernel) (by decide +kernel) (by decide +kernel) (by decide +kernel) (fun _ _ _ h => h) (Or.inl ⟨by rfl, ?_⟩) hS22 ?_
        rotate_left
        · intro wS hS; go_simp; (try with_reducible rfl)
        simp only [Act.put, List.getElem_toArray, List.getElem_cons_succ, List.getElem_cons_zero, List.setIfInBounds_toArray, List.set_cons_succ, List.set_cons_zero]
        refine wpAnyL_take (i := 10) (f0 := 33) (v := ?_) rfl (by decide +kernel) (by decide +kernel) (by decide +kernel) (by decide +kernel) (by decide +kernel) (fun _ _ _ h => h) (Or.inl ⟨by rfl, ?_⟩) hS22 ?_
        rotate_left
        · intro wS hS; go_simp; (try with_reducible rfl)
        simp only [Act.put, List.getElem_toArray, List.getElem_cons_succ, List.getElem_cons_zero, List.setIfInBounds_toArray, List.set_cons_succ, List.set_cons_zero]
        refine wpAnyL_take (i := 11) (f0 := 33) (v := ?_) rfl (by decide +kernel) (by decide +kernel) (by decide +kernel) (by decide +kernel) (by decide +kernel) (fun _ _ _ h => h) (Or.inl ⟨by rfl, ?_⟩) hS22 ?_
        rotate_left
        · intro wS hS; obtain ⟨z0, z1, z2, z3, z4, z5, z6, z7, z8, z9⟩ := jCells10 hS.q.r2; go_simp; (try with_reducible rfl)
        simp only [Act.put, List.getElem_toArray, List.getElem_cons_succ, List.getElem_cons_zero, List.setIfInBounds_toArray, List.set_cons_succ, List.set_cons_zero]
        refine wpAnyL_take (i := 13) (f0 := 33) (v := ?_) rfl (by decide +kernel) (by decide +kernel) (by decide +kernel) (by decide +kernel) (by decide +kernel) (fun _ _ _ h => h) (Or.inl ⟨by rfl, ?_⟩) hS22 ?_
        rotate_left
        · intro wS hS; go_simp; (try with_reducible rfl)
        simp only [Act.put, List.getElem_toArray, List.getElem_cons_succ, List.getElem_cons_zero, List.setIfInBounds_toArray, List.set_cons_succ, List.set_cons_zero]
        refine wpAnyL_take (i := 14) (f0 := 33) (v := ?_) rfl (by decide +kernel) (by decide +kernel) (by decide +kernel) (by decide +kernel) (by decide +kernel) (fun _ _ _ h => h) (Or.inl ⟨by rfl, ?_⟩) hS22 ?_
        rotate_left
        · intro wS hS; obtain ⟨z0, z1, z2, z3, z4, z5, z6, z7, z8, z9⟩ := jCells10 hS.q.r2; go_simp; (try with_reducible rfl)
        simp only [Act.put, List.getElem_toArray, List.getElem_cons_succ, List.getElem_cons_zero, List.setIfInBounds_toArray, List.set_cons_succ, List.set_cons_zero]
        refine wpAnyL_one (i := 12) (by decide +kernel) (by rfl) (fun K9 hK => ?_)
        rw [if_pos (by rfl)]
        go_simp
        refine (pcheck_of root p A2 m2 c2 HM2.out (by omega) HPP.out HPZ.out w22 (he.next hS22.q.up) ((HP.out.below hS22.q.up).more hS22.q.up.size) C HC.out).mono ?_
        rintro e w23 ⟨rfl, hx23⟩
        have hS23 : (QP w A n c p A2 m2 c2 P0 pn b1 b2 A9 c9 B9 d9) w23 := hS22.below hx23
        refine hK.out _ _ (Or.inr hS23) ?_
        clear hK K9 hS22 hx23
        try simp only [Act.put, List.getElem_toArray, List.getElem_cons_succ, List.getElem_cons_zero, List.setIfInBounds_toArray, List.set_cons_succ, List.set_cons_zero]
        refine wpAnyL_one (i := 15) (by decide +kernel) (by rfl) (fun K9 hK => ?_)
        rw [if_pos (by rfl)]
        go_simp
        refine (rpcheck_of root p A2 m2 c2 HM2.out (by omega) HC2.out HPP.out HPZ.out w23 (he.next hS23.q.up) ((HP.out.below hS23.q.up).more hS23.q.up.size) C HC.out).mono ?_
        rintro e w24 ⟨rfl, hx24⟩
        have hS24 : (QP w A n c p A2 m2 c2 P0 pn b1 b2 A9 c9 B9 d9) w24 := hS23.below hx24
        refine hK.out _ _ (Or.inr hS24) ?_
        clear hK K9 hS23 hx24
        try simp only [Act.put, List.getElem_toArray, List.getElem_cons_succ, List.getElem_cons_zero, List.setIfInBounds_toArray, List.set_cons_succ, List.set_cons_zero]
        refine wpAnyL_take (i := 16) (f0 := 33) (v := ?_) rfl (by decide +kernel) (by decide +kernel) (by decide +kernel) (by decide +kernel) (by decide +kernel) (fun _ _ _ h => h) (Or.inl ⟨by rfl, ?_⟩) hS24 ?_
        rotate_left
        · intro wS hS; go_simp; (try with_reducible rfl)
        simp only [Act.put, List.getElem_toArray, List.getElem_cons_succ, List.getElem_cons_zero, List.setIfInBounds_toArray, List.set_cons_succ, List.set_cons_zero]
        refine wpAnyL_take (i := 17) (f0 := 33) (v := ?_) rfl (by decide +kernel) (by decide +kernel) (by decide +kernel) (by decide +kernel) (by decide +kernel) (fun _ _ _ h => h) (Or.inl ⟨by rfl, ?_⟩) hS24 ?_
        rotate_left
        · intro wS hS; go_simp; (try with_reducible rfl)
        simp only [Act.put, List.getElem_toArray, List.getElem_cons_succ, List.getElem_cons_zero, List.setIfInBounds_toArray, List.set_cons_succ, List.set_cons_zero]
        refine wpAnyL_take (i := 18) (f0 := 33) (v := ?_) rfl (by decide +kernel) (by decide +kernel) (by decide +kernel) (by decide +kernel) (by decide +kernel) (fun _ _ _ h => h) (Or.inl ⟨by rfl, ?_⟩) hS24 ?_
        rotate_left
        · intro wS hS; go_simp; (try with_reducible rfl)
        simp only [Act.put, List.getElem_toArray, List.getElem_cons_succ, List.getElem_cons_zero, List.setIfInBounds_toArray, List.set_cons_succ, List.set_cons_zero]
        refine wpAnyL_take (i := 19) (f0 := 33) (v := ?_) rfl (by decide +kernel) (by decide +kernel) (by decide +kernel) (by decide +kernel) (by decide +kernel) (fun _ _ _ h => h) (Or.inl ⟨by rfl, ?_⟩) hS24 ?_
        rotate_left
        · intro wS hS; go_simp; (try with_reducible rfl)
        simp only [Act.put, List.getElem_toArray, List.getElem_cons_succ, List.getElem_cons_zero, List.setIfInBounds_toArray, List.set_cons_succ, List.set_cons_zero]
        refine wpAnyL_take (i := 20) (f0 := 33) (v := ?_) rfl (by decide +kernel) (by decide +kernel) (by decide +kernel) (by decide +kernel) (by decide +kernel) (fun _ _ _ h => h) (Or.inl ⟨by rfl, ?_⟩) hS24 ?_
        rotate_left
        · intro wS hS; go_simp; (try with_reducible rfl)
        simp only [Act.put, List.getElem_toArray, List.getElem_cons_succ, List.getElem_cons_zero, List.setIfInBounds_toArray, List.set_cons_succ, List.set_cons_zero]
        refine wpAnyL_take (i := 21) (f0 := 33) (v := ?_) rfl (by decide +kernel) (by decide +kernel) (by decide +kernel) (by decide +kernel) (by decide +kernel) (fun _ _ _ h => h) (Or.inl ⟨by rfl, ?_⟩) hS24 ?_
        rotate_left
        · intro wS hS; obtain ⟨z0, z1, z2, z3, z4, z5, z6, z7, z8, z9⟩ := jCells10 hS.q.r2; go_simp; (try with_reducible rfl)
        simp only [Act.put, List.getElem_toArray, List.getElem_cons_succ, List.getElem_cons_zero, List.setIfInBounds_toArray, List.set_cons_succ, List.set_cons_zero]
        refine wpAnyL_take (i := 22) (f0 := 33) (v := ?_) rfl (by decide +kernel) (by decide +kernel) (by decide +kernel) (by decide +kernel) (by decide +kernel) (fun _ _ _ h => h) (Or.inl ⟨by rfl, ?_⟩) hS24 ?_
        rotate_left
        · intro wS hS; go_simp; (try with_reducible rfl)
        simp only [Act.put, List.getElem_toArray, List.getElem_cons_succ, List.getElem_cons_zero, List.setIfInBounds_toArray, List.set_cons_succ, List.set_cons_zero]
        refine wpAnyL_take (i := 24) (f0 := 33) (v := ?_) rfl (by decide +kernel) (by decide +kernel) (by decide +kernel) (by decide +kernel) (by decide +kernel) (fun _ _ _ h => h) (Or.inl ⟨by rfl, ?_⟩) hS24 ?_
        rotate_left
        · intro wS hS; go_simp; (try with_reducible rfl)
        simp only [Act.put, List.getElem_toArray, List.getElem_cons_succ, List.getElem_cons_zero, List.setIfInBounds_toArray, List.set_cons_succ, List.set_cons_zero]
        refine wpAnyL_take (i := 25) (f0 := 33) (v := ?_) rfl (by decide +kernel) (by decide +kernel) (by decide +kernel) (by decide +kernel) (by decide +kernel) (fun _ _ _ h => h) (Or.inl ⟨by rfl, ?_⟩) hS24 ?_
        rotate_left
        · intro wS hS; go_simp; (try with_reducible rfl)
        simp only [Act.put, List.getElem_toArray, List.getElem_cons_succ, List.getElem_cons_zero, List.setIfInBounds_toArray, List.set_cons_succ, List.set_cons_zero]
        refine wpAnyL_take (i := 26) (f0 := 33) (v := ?_) rfl (by decide +kernel) (by decide +kernel) (by decide +kernel) (by decide +kernel) (by decide +kernel) (fun _ _ _ h => h) (Or.inl ⟨by rfl, ?_⟩) hS24 ?_
        rotate_left
        · intro wS hS; obtain ⟨z0, z1, z2, z3, z4, z5, z6, z7, z8, z9⟩ := jCells10 hS.q.r2; go_simp; (try with_reducible rfl)
        simp only [Act.put, List.getElem_toArray, List.getElem_cons_succ, List.getElem_cons_zero, List.setIfInBounds_toArray, List.set_cons_succ, List.set_cons_zero]
        refine wpAnyL_take (i := 27) (f0 := 33) (v := ?_) rfl (by decide +kernel) (by decide +kernel) (by decide +kernel) (by decide +kernel) (by decide +kernel) (fun _ _ _ h => h) (Or.inl ⟨by rfl, ?_⟩) hS24 ?_
        rotate_left
        · intro wS hS; go_simp; (try with_reducible rfl)
        simp only [Act.put, List.getElem_toArray, List.getElem_cons_succ, List.getElem_cons_zero, List.setIfInBounds_toArray, List.set_cons_succ, List.set_cons_zero]
        refine wpAnyL_one (i := 23) (by decide +kernel) (by rfl) (fun K9 hK => ?_)
        rw [if_pos (by rfl)]
        go_simp
        refine (pmsg_of day p.count root HD0.out HD1.out HPC0.out HPC1.out (by omega) MG HMG.out w24 (he.next hS24.q.up)).mono ?_
        rintro e w25 ⟨rfl, hx25⟩
        have hS25 : (QP w A n c p A2 m2 c2 P0 pn b1 b2 A9 c9 B9 d9) w25 := hS24.below hx25
        refine hK.out _ _ (Or.inr hS25) ?_
        clear hK K9 hS24 hx25
        try simp only [Act.put, List.getElem_toArray, List.getElem_cons_succ, List.getElem_cons_zero, List.setIfInBounds_toArray, List.set_cons_succ, List.set_cons_zero]
        refine wpAnyL_one (i := 28) (by decide +kernel) (by rfl) (fun K9 hK => ?_)
        rw [if_pos (by rfl)]
        go_simp
        refine (rmsg_of day p.count root HD0.out HD1.out HPC0.out HPC1.out (by omega) MG HMG.out w25).mono ?_
        rintro e w26 ⟨rfl, hx26⟩
        have hS26 : (QP w A n c p A2 m2 c2 P0 pn b1 b2 A9 c9 B9 d9) w26 := hS25.below hx26
        refine hK.out _ _ (Or.inr hS26) ?_
        clear hK K9 hS25 hx26
        try simp only [Act.put, List.getElem_toArray, List.getElem_cons_succ, List.getElem_cons_zero, List.setIfInBounds_toArray, List.set_cons_succ, List.set_cons_zero]
        refine wpAnyL_take (i := 29) (f0 := 33) (v := ?_) rfl (by decide +kernel) (by decide +kernel) (by decide +kernel) (by decide +kernel) (by decide +kernel) (fun _ _ _ h => h) (Or.inl ⟨by rfl, ?_⟩) hS26 ?_
        rotate_left
        · intro wS hS; go_simp; (try with_reducible rfl)
        simp only [Act.put, List.getElem_toArray, List.getElem_cons_succ, List.getElem_cons_zero, List.setIfInBounds_toArray, List.set_cons_succ, List.set_cons_zero]
        refine wpAnyL_take (i := 30) (f0 := 33) (v := ?_) rfl (by decide +kernel) (by decide +kernel) (by decide +kernel) (by decide +kernel) (by decide +kernel) (fun _ _ _ h => h) (Or.inl ⟨by rfl, ?_⟩) hS26 ?_
        rotate_left
        · intro wS hS; go_simp; (try with_reducible rfl)
        simp only [Act.put, List.getElem_toArray, List.getElem_cons_succ, List.getElem_cons_zero, List.setIfInBounds_toArray, List.set_cons_succ, List.set_cons_zero]
        refine wpAnyL_done (by decide +kernel) ?_ _
        refine NoPanic.normal ?_
        have hS := hS26.q
        clear hS26 hee
        obtain ⟨K, hK⟩ : ∃ K, Dg.publicB offB 0 = K := ⟨_, rfl⟩
        obtain ⟨S0, hS0⟩ : ∃ S, Dg.sigB (secB false) 0 (msgB 0 0 ⟨#[]⟩) = S := ⟨_, rfl⟩
        have HK := hide hK; have HS0 := hide hS0
        clear hK hS0
        go_wp2_with fail
        refine (signed_of 0 0 ⟨#[]⟩ false (by decide) (by decide) (by decide) (by decide) (by decide) w26 (he.next hS.up) K HK.out S0 HS0.out).mono ?_
        rintro e w15 ⟨A5, c5, B5, d5, rfl, _, _, hx5⟩
        have hx6 := Below.news (Below.refl w15.heap.size w15) (.cells #[.int .i64 0, .slice A5 18 c5, .slice B5 0 d5] 42)
        have hS6 := (hS.below hx5).below hx6
        clear hS hx5 hx6 HS0
        go_wp2_with fail
        generalize w15.alloc (.cells #[.int .i64 0, .slice A5 18 c5, .slice B5 0 d5] 42) = w6 at *
        generalize w15.heap.size = s0 at *
        refine (pnew_of K w6).mono ?_
        rintro e w7 ⟨rfl, hR7, hz7, hx7⟩
        have HZ7 := hide hz7
        clear hz7
        go_wp2_with fail
        refine (rnew_of K w7).mono ?_
        rintro e w8 ⟨rfl, hR8, hx8⟩
        have HAP := hide (show Ar w.heap.size (w6.heap.size + 1) w6.heap.size w7.heap.size by
          have h1 := HZ7.out
          have h2 := lt_of_block hS6.r2
          constructor <;> omega)
        have hS8 := (hS6.below hx7).below hx8
        have hA8 := hR7.below hx8
        clear hS6 hx7 hx8 hR7 HZ7
        generalize w6.heap.size + 1 = ba at *
        generalize w6.heap.size = ma at *
        generalize w7.heap.size = bb at *
        clear hwk h300
        go_wp2
        go_loopw [22] (fun iv wr => ∃ k : Nat, k ≤ nt ∧ iv = .int .i64 (k : Int) ∧ ∃ lr M A8 n8 c8, QS w A n c p A2 m2 c2 wr ∧ Rd ba ma K lr wr ∧ RR bb K M A8 n8 c8 wr ∧ lr.length ≤ k ∧ n8 ≤ k ∧ Hid (SameR lr M)) (fun iv _ => nt - (intOf iv).toNat)
        case atStart => exact ⟨0, by omega, rfl, [], [], none, 0, 0, hS8, hA8, hR8, by simp, by simp, SameR.nil⟩
        case round =>
          clear hS8 hA8 hR8
          obtain ⟨k, hk, rfl, lr, M, A8, n8, c8, hS, hA, hB, hlr, hn8k, HSR⟩ := hrel
          by_cases hlt : k < nt
          · have hkl : k < lt.length := by rw [HLT.out]; exact hlt
            obtain ⟨b, off, rfl, _⟩ := HT.out.get hkl
            have hkn : (k : Int) < (nt : Int) := by omega
            have hk0 : (0 : Int) ≤ (k : Int) := by omega
            obtain ⟨x, hx⟩ : ∃ x, lt[k] = x := ⟨_, rfl⟩
            have hwx : TdW x := by rw [← hx]; exact HWT.out _ (List.getElem_mem _)
            have hxz : x.root.size ≤ 100 := by rw [← hx]; exact HZ.out _ (List.getElem_mem _)
            obtain ⟨q0, q1, q2, q3⟩ := (HT.out.below hS.up).cells hkl x hx
            obtain ⟨SG, hSG⟩ : ∃ S, Dg.sigB (secB x.wrong) 0 (msgB x.day x.count x.root) = S := ⟨_, rfl⟩
            have N1 := hide (show SG.length = 18 by rw [← hSG]; exact Dg.sigB_len _ _ _)
            have Z1 := hide (show ∀ s ∈ SG, s.size ≤ 1048576 by rw [← hSG]; exact sigB_small _ _ _)
            obtain ⟨V, hV⟩ : ∃ V, vT K x = V := ⟨_, rfl⟩
            have HV := hide (show verifyB K (msgB x.day x.count x.root) 0 SG [] = V by rw [← hV, ← hSG]; rfl)
            obtain ⟨E, D, hE⟩ : ∃ E D, learnE lr V x.day x.count x.root = (E, D) := ⟨_, _, rfl⟩
            obtain ⟨M2, hE2, hSR2⟩ := HSR.out.learn hE
            have HDL := hide (learn_len hE); have HML := hide (rlearn_len hE2)
            obtain ⟨WE, hWE⟩ : ∃ E, wasE D x.day p = E := ⟨_, rfl⟩
            have HWE := hide hWE
            have HWE2 := hide (show wasE M2 x.day p = WE by rw [← hSR2.was]; exact hWE)
            have HE := hide hE; have HE2 := hide hE2; have HSR2 := hide hSR2; have HSG := hide hSG; have HX := hide hx
            have e0 := hwx.d0; have e1' := hwx.d1; have f0 := hwx.c0; have f1 := hwx.c1
            have hee : ((E : Int) != E) = false := bne_self_eq_false _
            have hww : ((WE : Int) != WE) = false := bne_self_eq_false _
            clear hV hSG hE hE2 hx hwx hWE hSR2 HSR
            go_wp2_with fail
            refine (signed_of x.day x.count x.root x.wrong e0 e1' f0 f1 (Nat.le_trans hxz (by decide)) wr (he.next hS.up) K HK.out SG HSG.out).mono ?_
            rintro e w2 ⟨A1, e1, B1, d1, rfl, hc, hs2, hx2⟩
            have hs := SR.new (c := e1) (A' := B1) (c' := d1) hs2
            have hx3 := Below.news (Below.refl w2.heap.size w2) (.cells #[.int .i64 0, .slice A1 18 e1, .slice B1 0 d1] 42)
            have hT3 : QT w A n c p A2 m2 c2 w2.heap.size A1 e1 B1 d1 (w2.alloc (.cells #[.int .i64 0, .slice A1 18 e1, .slice B1 0 d1] 42)) := ⟨(hS.below hx2).below hx3, hs.row⟩
            replace hA := (hA.below hx2).below hx3
            replace hB := (hB.below hx2).below hx3
            clear hS hx2 hx3 hs2 q0 q1 q2 q3
            go_upto_region 15 with (fail)
            generalize w2.alloc (.cells #[.int .i64 0, .slice A1 18 e1, .slice B1 0 d1] 42) = w3 at *
            generalize w2.heap.size = sb at *
            have HN1 := hide (show sb ≠ ma from fun e => by
              have := map_row hA.map 0
              rw [← e, (jCells3 hT3.s).1] at this
              cases this)
            have HN2 := hide (show sb ≠ bb from fun e => by
              have h1 := (jCells3 hT3.s).1
              rw [e, (jCells2' hB.row).1] at h1
              cases h1)
            refine wp_region_noPanic ?_
            refine wp_region_L (QT w A n c p A2 m2 c2 sb A1 e1 B1 d1) 56 hmx ?_
            have hdr := (Below.refl w3.heap.size w3).drew
            have hS41 : (QT w A n c p A2 m2 c2 sb A1 e1 B1 d1) w3.drew := hT3.below hdr
            replace hA := hA.below hdr
            replace hB := hB.below hdr
            replace hs := hs.next hdr
            clear hdr hT3
            generalize w3.drew = w41 at *
            refine wpAnyL_take (i := 0) (f0 := 58) (v := ?_) rfl (by decide +kernel) (by decide +kernel) (by decide +kernel) (by decide +kernel) (by decide +kernel) (fun _ _ _ h => h) (Or.inl ⟨by rfl, ?_⟩) hS41 ?_
            rotate_left
            · intro wS hS; go_simp; (try with_reducible rfl)
            simp only [Act.put, List.getElem_toArray, List.getElem_cons_zero, List.setIfInBounds_toArray, List.set_cons_succ, List.set_cons_zero]
            refine wpAnyL_take (i := 1) (f0 := 58) (v := ?_) rfl (by decide +kernel) (by decide +kernel) (by decide +kernel) (by decide +kernel) (by decide +kernel) (fun _ _ _ h => h) (Or.inl ⟨by rfl, ?_⟩) hS41 ?_
            rotate_left
            · intro wS hS; go_simp; (try with_reducible rfl)
            simp only [Act.put, List.getElem_toArray, List.getElem_cons_succ, List.getElem_cons_zero, List.setIfInBounds_toArray, List.set_cons_succ, List.set_cons_zero]
            refine wpAnyL_take (i := 2) (f0 := 58) (v := ?_) rfl (by decide +kernel) (by decide +kernel) (by decide +kernel) (by decide +kernel) (by decide +kernel) (fun _ _ _ h => h) (Or.inl ⟨by rfl, ?_⟩) hS41 ?_
            rotate_left
            · intro wS hS; go_simp; (try with_reducible rfl)
            simp only [Act.put, List.getElem_toArray, List.getElem_cons_succ, List.getElem_cons_zero, List.setIfInBounds_toArray, List.set_cons_succ, List.set_cons_zero]
            refine wpAnyL_take (i := 3) (f0 := 58) (v := ?_) rfl (by decide +kernel) (by decide +kernel) (by decide +kernel) (by decide +kernel) (by decide +kernel) (fun _ _ _ h => h) (Or.inl ⟨by rfl, ?_⟩) hS41 ?_
            rotate_left
            · intro wS hS; go_simp; (try with_reducible rfl)
            simp only [Act.put, List.getElem_toArray, List.getElem_cons_succ, List.getElem_cons_zero, List.setIfInBounds_toArray, List.set_cons_succ, List.set_cons_zero]
            refine wpAnyL_take (i := 4) (f0 := 58) (v := ?_) rfl (by decide +kernel) (by decide +kernel) (by decide +kernel) (by decide +kernel) (by decide +kernel) (fun _ _ _ h => h) (Or.inl ⟨by rfl, ?_⟩) hS41 ?_
            rotate_left
            · intro wS hS; go_simp; (try with_reducible rfl)
            simp only [Act.put, List.getElem_toArray, List.getElem_cons_succ, List.getElem_cons_zero, List.setIfInBounds_toArray, List.set_cons_succ, List.set_cons_zero]
            refine wpAnyL_take (i := 5) (f0 := 58) (v := ?_) rfl (by decide +kernel) (by decide +kernel) (by decide +kernel) (by decide +kernel) (by decide +kernel) (fun _ _ _ h => h) (Or.inl ⟨by rfl, ?_⟩) hS41 ?_
            rotate_left
            · intro wS hS; obtain ⟨q0, q1, q2, q3⟩ := (HT.out.below hS.q.up).cells hkl x HX.out; go_simp; (try with_reducible rfl)
            simp only [Act.put, List.getElem_toArray, List.getElem_cons_succ, List.getElem_cons_zero, List.setIfInBounds_toArray, List.set_cons_succ, List.set_cons_zero]
            refine wpAnyL_take (i := 6) (f0 := 58) (v := ?_) rfl (by decide +kernel) (by decide +kernel) (by decide +kernel) (by decide +kernel) (by decide +kernel) (fun _ _ _ h => h) (Or.inl ⟨by rfl, ?_⟩) hS41 ?_
            rotate_left
            · intro wS hS; go_simp; (try with_reducible rfl)
            simp only [Act.put, List.getElem_toArray, List.getElem_cons_succ, List.getElem_cons_zero, List.setIfInBounds_toArray, List.set_cons_succ, List.set_cons_zero]
            refine wpAnyL_take (i := 7) (f0 := 58) (v := ?_) rfl (by decide +kernel) (by decide +kernel) (by decide +kernel) (by decide +kernel) (by decide +kernel) (fun _ _ _ h => h) (Or.inl ⟨by rfl, ?_⟩) hS41 ?_
            rotate_left
            · intro wS hS; go_simp; (try with_reducible rfl)
            simp only [Act.put, List.getElem_toArray, List.getElem_cons_succ, List.getElem_cons_zero, List.setIfInBounds_toArray, List.set_cons_succ, List.set_cons_zero]
            refine wpAnyL_take (i := 8) (f0 := 58) (v := ?_) rfl (by decide +kernel) (by decide +kernel) (by decide +kernel) (by decide +kernel) (by decide +kernel) (fun _ _ _ h => h) (Or.inl ⟨by rfl, ?_⟩) hS41 ?_
            rotate_left
            · intro wS hS; go_simp; (try with_reducible rfl)
            simp only [Act.put, List.getElem_toArray, List.getElem_cons_succ, List.getElem_cons_zero, List.setIfInBounds_toArray, List.set_cons_succ, List.set_cons_zero]
            refine wpAnyL_take (i := 9) (f0 := 58) (v := ?_) rfl (by decide +kernel) (by decide +kernel) (by decide +kernel) (by decide +kernel) (by decide +kernel) (fun _ _ _ h => h) (Or.inl ⟨by rfl, ?_⟩) hS41 ?_
            rotate_left
            · intro wS hS; go_simp; (try with_reducible rfl)
            simp only [Act.put, List.getElem_toArray, List.getElem_cons_succ, List.getElem_cons_zero, List.setIfInBounds_toArray, List.set_cons_succ, List.set_cons_zero]
            refine wpAnyL_take (i := 10) (f0 := 58) (v := ?_) rfl (by decide +kernel) (by decide +kernel) (by decide +kernel) (by decide +kernel) (by decide +kernel) (fun _ _ _ h => h) (Or.inl ⟨by rfl, ?_⟩) hS41 ?_
            rotate_left
            · intro wS hS; obtain ⟨q0, q1, q2, q3⟩ := (HT.out.below hS.q.up).cells hkl x HX.out; go_simp; (try with_reducible rfl)
            simp only [Act.put, List.getElem_toArray, List.getElem_cons_succ, List.getElem_cons_zero, List.setIfInBounds_toArray, List.set_cons_succ, List.set_cons_zero]
            refine wpAnyL_take (i := 11) (f0 := 58) (v := ?_) rfl (by decide +kernel) (by decide +kernel) (by decide +kernel) (by decide +kernel) (by decide +kernel) (fun _ _ _ h => h) (Or.inl ⟨by rfl, ?_⟩) hS41 ?_
            rotate_left
            · intro wS hS; go_simp; (try with_reducible rfl)
            simp only [Act.put, List.getElem_toArray, List.getElem_cons_succ, List.getElem_cons_zero, List.setIfInBounds_toArray, List.set_cons_succ, List.set_cons_zero]
            refine wpAnyL_take (i := 12) (f0 := 58) (v := ?_) rfl (by decide +kernel) (by decide +kernel) (by decide +kernel) (by decide +kernel) (by decide +kernel) (fun _ _ _ h => h) (Or.inl ⟨by rfl, ?_⟩) hS41 ?_
            rotate_left
            · intro wS hS; go_simp; (try with_reducible rfl)
            simp only [Act.put, List.getElem_toArray, List.getElem_cons_succ, List.getElem_cons_zero, List.setIfInBounds_toArray, List.set_cons_succ, List.set_cons_zero]
            refine wpAnyL_take (i := 13) (f0 := 58) (v := ?_) rfl (by decide +kernel) (by decide +kernel) (by decide +kernel) (by decide +kernel) (by decide +kernel) (fun _ _ _ h => h) (Or.inl ⟨by rfl, ?_⟩) hS41 ?_
            rotate_left
            · intro wS hS; go_simp; (try with_reducible rfl)
            simp only [Act.put, List.getElem_toArray, List.getElem_cons_succ, List.getElem_cons_zero, List.setIfInBounds_toArray, List.set_cons_succ, List.set_cons_zero]
            refine wpAnyL_take (i := 14) (f0 := 58) (v := ?_) rfl (by decide +kernel) (by decide +kernel) (by decide +kernel) (by decide +kernel) (by decide +kernel) (fun _ _ _ h => h) (Or.inl ⟨by rfl, ?_⟩) hS41 ?_
            rotate_left
            · intro wS hS; go_simp; (try with_reducible rfl)
            simp only [Act.put, List.getElem_toArray, List.getElem_cons_succ, List.getElem_cons_zero, List.setIfInBounds_toArray, List.set_cons_succ, List.set_cons_zero]
            refine wpAnyL_take (i := 15) (f0 := 58) (v := ?_) rfl (by decide +kernel) (by decide +kernel) (by decide +kernel) (by decide +kernel) (by decide +kernel) (fun _ _ _ h => h) (Or.inl ⟨by rfl, ?_⟩) hS41 ?_
            rotate_left
            · intro wS hS; obtain ⟨q0, q1, q2, q3⟩ := (HT.out.below hS.q.up).cells hkl x HX.out; go_simp; (try with_reducible rfl)
            simp only [Act.put, List.getElem_toArray, List.getElem_cons_succ, List.getElem_cons_zero, List.setIfInBounds_toArray, List.set_cons_succ, List.set_cons_zero]
            refine wpAnyL_take (i := 16) (f0 := 58) (v := ?_) rfl (by decide +kernel) (by decide +kernel) (by decide +kernel) (by decide +kernel) (by decide +kernel) (fun _ _ _ h => h) (Or.inl ⟨by rfl, ?_⟩) hS41 ?_
            rotate_left
            · intro wS hS; obtain ⟨y0, y1, y2⟩ := jCells3 hS.s; go_simp; (try with_reducible rfl)
            simp only [Act.put, List.getElem_toArray, List.getElem_cons_succ, List.getElem_cons_zero, List.setIfInBounds_toArray, List.set_cons_succ, List.set_cons_zero]
            refine wpAnyL_take (i := 18) (f0 := 58) (v := ?_) rfl (by decide +kernel) (by decide +kernel) (by decide +kernel) (by decide +kernel) (by decide +kernel) (fun _ _ _ h => h) (Or.inl ⟨by rfl, ?_⟩) hS41 ?_
            rotate_left
            · intro wS hS; go_simp; (try with_reducible rfl)
            simp only [Act.put, List.getElem_toArray, List.getElem_cons_succ, List.getElem_cons_zero, List.setIfInBounds_toArray, List.set_cons_succ, List.set_cons_zero]
            refine wpAnyL_take (i := 19) (f0 := 58) (v := ?_) rfl (by decide +kernel) (by decide +kernel) (by decide +kernel) (by decide +kernel) (by decide +kernel) (fun _ _ _ h => h) (Or.inl ⟨by rfl, ?_⟩) hS41 ?_
            rotate_left
            · intro wS hS; go_simp; (try with_reducible rfl)
            simp only [Act.put, List.getElem_toArray, List.getElem_cons_succ, List.getElem_cons_zero, List.setIfInBounds_toArray, List.set_cons_succ, List.set_cons_zero]
            refine wpAnyL_take (i := 20) (f0 := 58) (v := ?_) rfl (by decide +kernel) (by decide +kernel) (by decide +kernel) (by decide +kernel) (by decide +kernel) (fun _ _ _ h => h) (Or.inl ⟨by rfl, ?_⟩) hS41 ?_
            rotate_left
            · intro wS hS; go_simp; (try with_reducible rfl)
            simp only [Act.put, List.getElem_toArray, List.getElem_cons_succ, List.getElem_cons_zero, List.setIfInBounds_toArray, List.set_cons_succ, List.set_cons_zero]
            refine wpAnyL_take (i := 21) (f0 := 58) (v := ?_) rfl (by decide +kernel) (by decide +kernel) (by decide +kernel) (by decide +kernel) (by decide +kernel) (fun _ _ _ h => h) (Or.inl ⟨by rfl, ?_⟩) hS41 ?_
            rotate_left
            · intro wS hS; go_simp; (try with_reducible rfl)
            simp only [Act.put, List.getElem_toArray, List.getElem_cons_succ, List.getElem_cons_zero, List.setIfInBounds_toArray, List.set_cons_succ, List.set_cons_zero]
            refine wpAnyL_take (i := 22) (f0 := 58) (v := ?_) rfl (by decide +kernel) (by decide +kernel) (by decide +kernel) (by decide +kernel) (by decide +kernel) (fun _ _ _ h => h) (Or.inl ⟨by rfl, ?_⟩) hS41 ?_
            rotate_left
            · intro wS hS; go_simp; (try with_reducible rfl)
            simp only [Act.put, List.getElem_toArray, List.getElem_cons_succ, List.getElem_cons_zero, List.setIfInBounds_toArray, List.set_cons_succ, List.set_cons_zero]
            refine wpAnyL_take (i := 23) (f0 := 58) (v := ?_) rfl (by decide +kernel) (by decide +kernel) (by decide +kernel) (by decide +kernel) (by decide +kernel) (fun _ _ _ h => h) (Or.inl ⟨by rfl, ?_⟩) hS41 ?_
            rotate_left
            · intro wS hS; obtain ⟨q0, q1, q2, q3⟩ := (HT.out.below hS.q.up).cells hkl x HX.out; go_simp; (try with_reducible rfl)
            simp only [Act.put, List.getElem_toArray, List.getElem_cons_succ, List.getElem_cons_zero, List.setIfInBounds_toArray, List.set_cons_succ, List.set_cons_zero]
            refine wpAnyL_take (i := 24) (f0 := 58) (v := ?_) rfl (by decide +kernel) (by decide +kernel) (by decide +kernel) (by decide +kernel) (by decide +kernel) (fun _ _ _ h => h) (Or.inl ⟨by rfl, ?_⟩) hS41 ?_
            rotate_left
            · intro wS hS; go_simp; (try with_reducible rfl)
            simp only [Act.put, List.getElem_toArray, List.getElem_cons_succ, List.getElem_cons_zero, List.setIfInBounds_toArray, List.set_cons_succ, List.set_cons_zero]
            refine wpAnyL_take (i := 25) (f0 := 58) (v := ?_) rfl (by decide +kernel) (by decide +kernel) (by decide +kernel) (by decide +kernel) (by decide +kernel) (fun _ _ _ h => h) (Or.inl ⟨by rfl, ?_⟩) hS41 ?_
            rotate_left
            · intro wS hS; go_simp; (try with_reducible rfl)
            simp only [Act.put, List.getElem_toArray, List.getElem_cons_succ, List.getElem_cons_zero, List.setIfInBounds_toArray, List.set_cons_succ, List.set_cons_zero]
            refine wpAnyL_take (i := 26) (f0 := 58) (v := ?_) rfl (by decide +kernel) (by decide +kernel) (by decide +kernel) (by decide +kernel) (by decide +kernel) (fun _ _ _ h => h) (Or.inl ⟨by rfl, ?_⟩) hS41 ?_
            rotate_left
            · intro wS hS; go_simp; (try with_reducible rfl)
            simp only [Act.put, List.getElem_toArray, List.getElem_cons_succ, List.getElem_cons_zero, List.setIfInBounds_toArray, List.set_cons_succ, List.set_cons_zero]
            refine wpAnyL_take (i := 27) (f0 := 58) (v := ?_) rfl (by decide +kernel) (by decide +kernel) (by decide +kernel) (by decide +kernel) (by decide +kernel) (fun _ _ _ h => h) (Or.inl ⟨by rfl, ?_⟩) hS41 ?_
            rotate_left
            · intro wS hS; go_simp; (try with_reducible rfl)
            simp only [Act.put, List.getElem_toArray, List.getElem_cons_succ, List.getElem_cons_zero, List.setIfInBounds_toArray, List.set_cons_succ, List.set_cons_zero]
            refine wpAnyL_take (i := 28) (f0 := 58) (v := ?_) rfl (by decide +kernel) (by decide +kernel) (by decide +kernel) (by decide +kernel) (by decide +kernel) (fun _ _ _ h => h) (Or.inl ⟨by rfl, ?_⟩) hS41 ?_
            rotate_left
            · intro wS hS; obtain ⟨q0, q1, q2, q3⟩ := (HT.out.below hS.q.up).cells hkl x HX.out; go_simp; (try with_reducible rfl)
            simp only [Act.put, List.getElem_toArray, List.getElem_cons_succ, List.getElem_cons_zero, List.setIfInBounds_toArray, List.set_cons_succ, List.set_cons_zero]
            refine wpAnyL_take (i := 29) (f0 := 58) (v := ?_) rfl (by decide +kernel) (by decide +kernel) (by decide +kernel) (by decide +kernel) (by decide +kernel) (fun _ _ _ h => h) (Or.inl ⟨by rfl, ?_⟩) hS41 ?_
            rotate_left
            · intro wS hS; go_simp; (try with_reducible rfl)
            simp only [Act.put, List.getElem_toArray, List.getElem_cons_succ, List.getElem_cons_zero, List.setIfInBounds_toArray, List.set_cons_succ, List.set_cons_zero]
            refine wpAnyL_take (i := 30) (f0 := 58) (v := ?_) rfl (by decide +kernel) (by decide +kernel) (by decide +kernel) (by decide +kernel) (by decide +kernel) (fun _ _ _ h => h) (Or.inl ⟨by rfl, ?_⟩) hS41 ?_
            rotate_left
            · intro wS hS; go_simp; (try with_reducible rfl)
            simp only [Act.put, List.getElem_toArray, List.getElem_cons_succ, List.getElem_cons_zero, List.setIfInBounds_toArray, List.set_cons_succ, List.set_cons_zero]
            refine wpAnyL_take (i := 31) (f0 := 58) (v := ?_) rfl (by decide +kernel) (by decide +kernel) (by decide +kernel) (by decide +kernel) (by decide +kernel) (fun _ _ _ h => h) (Or.inl ⟨by rfl, ?_⟩) hS41 ?_
            rotate_left
            · intro wS hS; go_simp; (try with_reducible rfl)
            simp only [Act.put, List.getElem_toArray, List.getElem_cons_succ, List.getElem_cons_zero, List.setIfInBounds_toArray, List.set_cons_succ, List.set_cons_zero]
            refine wpAnyL_take (i := 32) (f0 := 58) (v := ?_) rfl (by decide +kernel) (by decide +kernel) (by decide +kernel) (by decide +kernel) (by decide +kernel) (fun _ _ _ h => h) (Or.inl ⟨by rfl, ?_⟩) hS41 ?_
            rotate_left
            · intro wS hS; go_simp; (try with_reducible rfl)
            simp only [Act.put, List.getElem_toArray, List.getElem_cons_succ, List.getElem_cons_zero, List.setIfInBounds_toArray, List.set_cons_succ, List.set_cons_zero]
            refine wpAnyL_take (i := 33) (f0 := 58) (v := ?_) rfl (by decide +kernel) (by decide +kernel) (by decide +kernel) (by decide +kernel) (by decide +kernel) (fun _ _ _ h => h) (Or.inl ⟨by rfl, ?_⟩) hS41 ?_
            rotate_left
            · intro wS hS; obtain ⟨q0, q1, q2, q3⟩ := (HT.out.below hS.q.up).cells hkl x HX.out; go_simp; (try with_reducible rfl)
            simp only [Act.put, List.getElem_toArray, List.getElem_cons_succ, List.getElem_cons_zero, List.setIfInBounds_toArray, List.set_cons_succ, List.set_cons_zero]
            refine wpAnyL_take (i := 34) (f0 := 58) (v := ?_) rfl (by decide +kernel) (by decide +kernel) (by decide +kernel) (by decide +kernel) (by decide +kernel) (fun _ _ _ h => h) (Or.inl ⟨by rfl, ?_⟩) hS41 ?_
            rotate_left
            · intro wS hS; obtain ⟨y0, y1, y2⟩ := jCells3 hS.s; go_simp; (try with_reducible rfl)
            simp only [Act.put, List.getElem_toArray, List.getElem_cons_succ, List.getElem_cons_zero, List.setIfInBounds_toArray, List.set_cons_succ, List.set_cons_zero]
            refine wpAnyL_one (i := 17) (by decide +kernel) (by rfl) (fun K9 hK => ?_)
            rw [if_pos (by rfl)]
            go_simp
            have hm9 := map_row hA.map
            have HBL := hide hB.len
            refine (plearn_of ba ma K lr x.day x.count x.root e0 e1' f0 f1 (Nat.le_trans hxz (by decide)) (by omega) 0 A1 18 e1 SG B1 0 d1 [] N1.out Z1.out rfl (fun s hs => by cases hs) hc w41 (he.next hS41.q.up) hs.strs ⟨fun h => by simp at h⟩ hA V HV.out E D HE.out).mono ?_
            rintro e w42 ⟨rfl, hA2, ho⟩
            have hS42 : (QT w A n c p A2 m2 c2 sb A1 e1 B1 d1) w42 := hS41.off ho HAP.out.ga HN1.out
            replace hB := hB.offm hm9 ho HAP.out.mb.symm
            replace hs := hs.learn hm9 ho HN1.out
            replace hA := hA2
            refine hK.out _ _ (Or.inr hS42) ?_
            clear hK K9 hS41 ho hA2 hm9
            try simp only [Act.put, List.getElem_toArray, List.getElem_cons_succ, List.getElem_cons_zero, List.setIfInBounds_toArray, List.set_cons_succ, List.set_cons_zero]
            refine wpAnyL_one (i := 35) (by decide +kernel) (by rfl) (fun K9 hK => ?_)
            rw [if_pos (by rfl)]
            go_simp
            refine (rlearn_of bb K M A8 n8 c8 (by omega) x.day x.count x.root e0 e1' f0 f1 (Nat.le_trans hxz (by decide)) 0 A1 18 e1 SG B1 0 d1 [] N1.out Z1.out rfl (fun s hs => by cases hs) (Nat.zero_le _) w42 hs.strs ⟨fun h => by simp at h⟩ hB V HV.out E M2 HE2.out).mono ?_
            rintro e w43 ⟨rfl, ⟨A8', n8', c8', hB2⟩, ho⟩
            have hS43 : (QT w A n c p A2 m2 c2 sb A1 e1 B1 d1) w43 := hS42.off ho HAP.out.gb HN2.out
            replace hA := hA.far ho (by simpa using HAP.out.ab) (by simpa using HAP.out.mb)
            clear hs hB
            have hB := hB2
            refine hK.out _ _ (Or.inr hS43) ?_
            clear hK K9 hS42 ho hB2
            try simp only [Act.put, List.getElem_toArray, List.getElem_cons_succ, List.getElem_cons_zero, List.setIfInBounds_toArray, List.set_cons_succ, List.set_cons_zero]
            refine wpAnyL_take (i := 36) (f0 := 58) (v := ?_) rfl (by decide +kernel) (by decide +kernel) (by decide +kernel) (by decide +kernel) (by decide +kernel) (fun _ _ _ h => h) (Or.inl ⟨by rfl, ?_⟩) hS43 ?_
            rotate_left
            · intro wS hS; go_simp; (try with_reducible rfl)
            simp only [Act.put, List.getElem_toArray, List.getElem_cons_succ, List.getElem_cons_zero, List.setIfInBounds_toArray, List.set_cons_succ, List.set_cons_zero]
            refine wpAnyL_take (i := 37) (f0 := 58) (v := ?_) rfl (by decide +kernel) (by decide +kernel) (by decide +kernel) (by decide +kernel) (by decide +kernel) (fun _ _ _ h => h) (Or.inl ⟨by rfl, ?_⟩) hS43 ?_
            rotate_left
            · intro wS hS; go_simp; (try with_reducible rfl)
            simp only [Act.put, List.getElem_toArray, List.getElem_cons_succ, List.getElem_cons_zero, List.setIfInBounds_toArray, List.set_cons_succ, List.set_cons_zero]
            refine wpAnyL_take (i := 38) (f0 := 58) (v := ?_) rfl (by decide +kernel) (by decide +kernel) (by decide +kernel) (by decide +kernel) (by decide +kernel) (fun _ _ _ h => h) (Or.inl ⟨by rfl, ?_⟩) hS43 ?_
            rotate_left
            · intro wS hS; go_simp; (try with_reducible rfl)
            simp only [Act.put, List.getElem_toArray, List.getElem_cons_succ, List.getElem_cons_zero, List.setIfInBounds_toArray, List.set_cons_succ, List.set_cons_zero]
            refine wpAnyL_take (i := 39) (f0 := 58) (v := ?_) rfl (by decide +kernel) (by decide +kernel) (by decide +kernel) (by decide +kernel) (by decide +kernel) (fun _ _ _ h => h) (Or.inl ⟨by rfl, ?_⟩) hS43 ?_
            rotate_left
            · intro wS hS; go_simp; (try with_reducible rfl)
            simp only [Act.put, List.getElem_toArray, List.getElem_cons_succ, List.getElem_cons_zero, List.setIfInBounds_toArray, List.set_cons_succ, List.set_cons_zero]
            refine wpAnyL_take (i := 40) (f0 := 58) (v := ?_) rfl (by decide +kernel) (by decide +kernel) (by decide +kernel) (by decide +kernel) (by decide +kernel) (fun _ _ _ h => h) (Or.inl ⟨by rfl, ?_⟩) hS43 ?_
            rotate_left
            · intro wS hS; go_simp; (try with_reducible rfl)
            simp only [Act.put, List.getElem_toArray, List.getElem_cons_succ, List.getElem_cons_zero, List.setIfInBounds_toArray, List.set_cons_succ, List.set_cons_zero]
            refine wpAnyL_take (i := 41) (f0 := 58) (v := ?_) rfl (by decide +kernel) (by decide +kernel) (by decide +kernel) (by decide +kernel) (by decide +kernel) (fun _ _ _ h => h) (Or.inl ⟨by rfl, ?_⟩) hS43 ?_
            rotate_left
            · intro wS hS; go_simp; (try with_reducible rfl)
            simp only [Act.put, List.getElem_toArray, List.getElem_cons_succ, List.getElem_cons_zero, List.setIfInBounds_toArray, List.set_cons_succ, List.set_cons_zero]
            refine wpAnyL_take (i := 42) (f0 := 58) (v := ?_) rfl (by decide +kernel) (by decide +kernel) (by decide +kernel) (by decide +kernel) (by decide +kernel) (fun _ _ _ h => h) (Or.inl ⟨by rfl, ?_⟩) hS43 ?_
            rotate_left
            · intro wS hS; go_simp; (try with_reducible rfl)
            simp only [Act.put, List.getElem_toArray, List.getElem_cons_succ, List.getElem_cons_zero, List.setIfInBounds_toArray, List.set_cons_succ, List.set_cons_zero]
            refine wpAnyL_take (i := 43) (f0 := 58) (v := ?_) rfl (by decide +kernel) (by decide +kernel) (by decide +kernel) (by decide +kernel) (by decide +kernel) (fun _ _ _ h => h) (Or.inl ⟨by rfl, ?_⟩) hS43 ?_
            rotate_left
            · intro wS hS; obtain ⟨q0, q1, q2, q3⟩ := (HT.out.below hS.q.up).cells hkl x HX.out; go_simp; (try with_reducible rfl)
            simp only [Act.put, List.getElem_toArray, List.getElem_cons_succ, List.getElem_cons_zero, List.setIfInBounds_toArray, List.set_cons_succ, List.set_cons_zero]
            refine wpAnyL_take (i := 44) (f0 := 58) (v := ?_) rfl (by decide +kernel) (by decide +kernel) (by decide +kernel) (by decide +kernel) (by decide +kernel) (fun _ _ _ h => h) (Or.inl ⟨by rfl, ?_⟩) hS43 ?_
            rotate_left
            · intro wS hS; obtain ⟨z0, z1, z2, z3, z4, z5, z6, z7, z8, z9⟩ := jCells10 hS.q.r2; go_simp; (try with_reducible rfl)
            simp only [Act.put, List.getElem_toArray, List.getElem_cons_succ, List.getElem_cons_zero, List.setIfInBounds_toArray, List.set_cons_succ, List.set_cons_zero]
            refine wpAnyL_take (i := 46) (f0 := 58) (v := ?_) rfl (by decide +kernel) (by decide +kernel) (by decide +kernel) (by decide +kernel) (by decide +kernel) (fun _ _ _ h => h) (Or.inl ⟨by rfl, ?_⟩) hS43 ?_
            rotate_left
            · intro wS hS; go_simp; (try with_reducible rfl)
            simp only [Act.put, List.getElem_toArray, List.getElem_cons_succ, List.getElem_cons_zero, List.setIfInBounds_toArray, List.set_cons_succ, List.set_cons_zero]
            refine wpAnyL_take (i := 47) (f0 := 58) (v := ?_) rfl (by decide +kernel) (by decide +kernel) (by decide +kernel) (by decide +kernel) (by decide +kernel) (fun _ _ _ h => h) (Or.inl ⟨by rfl, ?_⟩) hS43 ?_
            rotate_left
            · intro wS hS; go_simp; (try with_reducible rfl)
            simp only [Act.put, List.getElem_toArray, List.getElem_cons_succ, List.getElem_cons_zero, List.setIfInBounds_toArray, List.set_cons_succ, List.set_cons_zero]
            refine wpAnyL_take (i := 48) (f0 := 58) (v := ?_) rfl (by decide +kernel) (by decide +kernel) (by decide +kernel) (by decide +kernel) (by decide +kernel) (fun _ _ _ h => h) (Or.inl ⟨by rfl, ?_⟩) hS43 ?_
            rotate_left
            · intro wS hS; go_simp; (try with_reducible rfl)
            simp only [Act.put, List.getElem_toArray, List.getElem_cons_succ, List.getElem_cons_zero, List.setIfInBounds_toArray, List.set_cons_succ, List.set_cons_zero]
            refine wpAnyL_take (i := 49) (f0 := 58) (v := ?_) rfl (by decide +kernel) (by decide +kernel) (by decide +kernel) (by decide +kernel) (by decide +kernel) (fun _ _ _ h => h) (Or.inl ⟨by rfl, ?_⟩) hS43 ?_
            rotate_left
            · intro wS hS; go_simp; (try with_reducible rfl)
            simp only [Act.put, List.getElem_toArray, List.getElem_cons_succ, List.getElem_cons_zero, List.setIfInBounds_toArray, List.set_cons_succ, List.set_cons_zero]
            refine wpAnyL_take (i := 50) (f0 := 58) (v := ?_) rfl (by decide +kernel) (by decide +kernel) (by decide +kernel) (by decide +kernel) (by decide +kernel) (fun _ _ _ h => h) (Or.inl ⟨by rfl, ?_⟩) hS43 ?_
            rotate_left
            · intro wS hS; go_simp; (try with_reducible rfl)
            simp only [Act.put, List.getElem_toArray, List.getElem_cons_succ, List.getElem_cons_zero, List.setIfInBounds_toArray, List.set_cons_succ, List.set_cons_zero]
            refine wpAnyL_take (i := 51) (f0 := 58) (v := ?_) rfl (by decide +kernel) (by decide +kernel) (by decide +kernel) (by decide +kernel) (by decide +kernel) (fun _ _ _ h => h) (Or.inl ⟨by rfl, ?_⟩) hS43 ?_
            rotate_left
            · intro wS hS; obtain ⟨q0, q1, q2, q3⟩ := (HT.out.below hS.q.up).cells hkl x HX.out; go_simp; (try with_reducible rfl)
            simp only [Act.put, List.getElem_toArray, List.getElem_cons_succ, List.getElem_cons_zero, List.setIfInBounds_toArray, List.set_cons_succ, List.set_cons_zero]
            refine wpAnyL_take (i := 52) (f0 := 58) (v := ?_) rfl (by decide +kernel) (by decide +kernel) (by decide +kernel) (by decide +kernel) (by decide +kernel) (fun _ _ _ h => h) (Or.inl ⟨by rfl, ?_⟩) hS43 ?_
            rotate_left
            · intro wS hS; obtain ⟨z0, z1, z2, z3, z4, z5, z6, z7, z8, z9⟩ := jCells10 hS.q.r2; go_simp; (try with_reducible rfl)
            simp only [Act.put, List.getElem_toArray, List.getElem_cons_succ, List.getElem_cons_zero, List.setIfInBounds_toArray, List.set_cons_succ, List.set_cons_zero]
            refine wpAnyL_one (i := 45) (by decide +kernel) (by rfl) (fun K9 hK => ?_)
            rw [if_pos (by rfl)]
            go_simp
            refine (pwas_of ba ma K D x.day e0 e1' p A2 m2 c2 HM2.out (by omega) HPP.out HPZ.out w43 (he.next hS43.q.up) ((HP.out.below hS43.q.up).more hS43.q.up.size) hA WE HWE.out).mono ?_
            rintro e w44 ⟨rfl, hx44⟩
            have hS44 : (QT w A n c p A2 m2 c2 sb A1 e1 B1 d1) w44 := hS43.below hx44
            replace hA := hA.below hx44
            replace hB := hB.below hx44
            refine hK.out _ _ (Or.inr hS44) ?_
            clear hK K9 hS43 hx44
            try simp only [Act.put, List.getElem_toArray, List.getElem_cons_succ, List.getElem_cons_zero, List.setIfInBounds_toArray, List.set_cons_succ, List.set_cons_zero]
            refine wpAnyL_one (i := 53) (by decide +kernel) (by rfl) (fun K9 hK => ?_)
            rw [if_pos (by rfl)]
            go_simp
            refine (rwas_of bb K M2 A8' n8' c8' (by have := hB.len; have := HML.out; have := HBL.out; omega) x.day p A2 m2 c2 HM2.out (by omega) HC2.out HPP.out HPZ.out w44 (he.next hS44.q.up) ((HP.out.below hS44.q.up).more hS44.q.up.size) hB WE HWE2.out).mono ?_
            rintro e w45 ⟨rfl, hx45⟩
            have hS45 : (QT w A n c p A2 m2 c2 sb A1 e1 B1 d1) w45 := hS44.below hx45
            replace hA := hA.below hx45
            replace hB := hB.below hx45
            refine hK.out _ _ (Or.inr hS45) ?_
            clear hK K9 hS44 hx45
            try simp only [Act.put, List.getElem_toArray, List.getElem_cons_succ, List.getElem_cons_zero, List.setIfInBounds_toArray, List.set_cons_succ, List.set_cons_zero]
            refine wpAnyL_take (i := 54) (f0 := 58) (v := ?_) rfl (by decide +kernel) (by decide +kernel) (by decide +kernel) (by decide +kernel) (by decide +kernel) (fun _ _ _ h => h) (Or.inl ⟨by rfl, ?_⟩) hS45 ?_
            rotate_left
            · intro wS hS; go_simp; (try with_reducible rfl)
            simp only [Act.put, List.getElem_toArray, List.getElem_cons_succ, List.getElem_cons_zero, List.setIfInBounds_toArray, List.set_cons_succ, List.set_cons_zero]
            refine wpAnyL_take (i := 55) (f0 := 58) (v := ?_) rfl (by decide +kernel) (by decide +kernel) (by decide +kernel) (by decide +kernel) (by decide +kernel) (fun _ _ _ h => h) (Or.inl ⟨by rfl, ?_⟩) hS45 ?_
            rotate_left
            · intro wS hS; go_simp; (try with_reducible rfl)
            simp only [Act.put, List.getElem_toArray, List.getElem_cons_succ, List.getElem_cons_zero, List.setIfInBounds_toArray, List.set_cons_succ, List.set_cons_zero]
            refine wpAnyL_done (by decide +kernel) ?_ _
            refine NoPanic.normal ?_
            clear hee hww
            go_wp2
            go_roundw
            case rel => exact ⟨k + 1, by omega, by go_num, D, M2, _, _, _, hS45.q, hA, hB, by have := HDL.out; omega, by have := HML.out; have := hB.len; have := HBL.out; omega, HSR2.out⟩
            case measure => simp [intOf]; omega
          · obtain rfl : nt = k := by omega
            obtain ⟨WE, hWE⟩ : ∃ E, wasE lr day p = E := ⟨_, rfl⟩
            have HWE := hide hWE
            have HWE2 := hide (show wasE M day p = WE by rw [← HSR.out.was]; exact hWE)
            have HDS := hide HSR.out.days
            have hww : ((WE : Int) == WE) = true := beq_self_eq_true _
            clear hWE
            go_upto_region 17 with (fail)
            refine wp_region_noPanic ?_
            refine wp_region_L (QS w A n c p A2 m2 c2) 20 hmx ?_
            have hdr := (Below.refl wr.heap.size wr).drew
            have hS61 : (QS w A n c p A2 m2 c2) wr.drew := hS.below hdr
            replace hA := hA.below hdr
            replace hB := hB.below hdr
            clear hdr hS
            generalize wr.drew = w61 at *
            refine wpAnyL_take (i := 0) (f0 := 22) (v := ?_) rfl (by decide +kernel) (by decide +kernel) (by decide +kernel) (by decide +kernel) (by decide +kernel) (fun _ _ _ h => h) (Or.inl ⟨by rfl, ?_⟩) hS61 ?_
            rotate_left
            · intro wS hS; go_simp; (try with_reducible rfl)
            simp only [Act.put, List.getElem_toArray, List.getElem_cons_zero, List.setIfInBounds_toArray, List.set_cons_succ, List.set_cons_zero]
            refine wpAnyL_take (i := 1) (f0 := 22) (v := ?_) rfl (by decide +kernel) (by decide +kernel) (by decide +kernel) (by decide +kernel) (by decide +kernel) (fun _ _ _ h => h) (Or.inl ⟨by rfl, ?_⟩) hS61 ?_
            rotate_left
            · intro wS hS; go_simp; (try with_reducible rfl)
            simp only [Act.put, List.getElem_toArray, List.getElem_cons_succ, List.getElem_cons_zero, List.setIfInBounds_toArray, List.set_cons_succ, List.set_cons_zero]
            refine wpAnyL_take (i := 2) (f0 := 22) (v := ?_) rfl (by decide +kernel) (by decide +kernel) (by decide +kernel) (by decide +kernel) (by decide +kernel) (fun _ _ _ h => h) (Or.inl ⟨by rfl, ?_⟩) hS61 ?_
            rotate_left
            · intro wS hS; go_simp; (try with_reducible rfl)
            simp only [Act.put, List.getElem_toArray, List.getElem_cons_succ, List.getElem_cons_zero, List.setIfInBounds_toArray, List.set_cons_succ, List.set_cons_zero]
            refine wpAnyL_take (i := 3) (f0 := 22) (v := ?_) rfl (by decide +kernel) (by decide +kernel) (by decide +kernel) (by decide +kernel) (by decide +kernel) (fun _ _ _ h => h) (Or.inl ⟨by rfl, ?_⟩) hS61 ?_
            rotate_left
            · intro wS hS; go_simp; (try with_reducible rfl)
            simp only [Act.put, List.getElem_toArray, List.getElem_cons_succ, List.getElem_cons_zero, List.setIfInBounds_toArray, List.set_cons_succ, List.set_cons_zero]
            refine wpAnyL_take (i := 4) (f0 := 22) (v := ?_) rfl (by decide +kernel) (by decide +kernel) (by decide +kernel) (by decide +kernel) (by decide +kernel) (fun _ _ _ h => h) (Or.inl ⟨by rfl, ?_⟩) hS61 ?_
            rotate_left
            · intro wS hS; obtain ⟨z0, z1, z2, z3, z4, z5, z6, z7, z8, z9⟩ := jCells10 hS.r2; go_simp; (try with_reducible rfl)
            simp only [Act.put, List.getElem_toArray, List.getElem_cons_succ, List.getElem_cons_zero, List.setIfInBounds_toArray, List.set_cons_succ, List.set_cons_zero]
            refine wpAnyL_take (i := 6) (f0 := 22) (v := ?_) rfl (by decide +kernel) (by decide +kernel) (by decide +kernel) (by decide +kernel) (by decide +kernel) (fun _ _ _ h => h) (Or.inl ⟨by rfl, ?_⟩) hS61 ?_
            rotate_left
            · intro wS hS; go_simp; (try with_reducible rfl)
            simp only [Act.put, List.getElem_toArray, List.getElem_cons_succ, List.getElem_cons_zero, List.setIfInBounds_toArray, List.set_cons_succ, List.set_cons_zero]
            refine wpAnyL_take (i := 7) (f0 := 22) (v := ?_) rfl (by decide +kernel) (by decide +kernel) (by decide +kernel) (by decide +kernel) (by decide +kernel) (fun _ _ _ h => h) (Or.inl ⟨by rfl, ?_⟩) hS61 ?_
            rotate_left
            · intro wS hS; go_simp; (try with_reducible rfl)
            simp only [Act.put, List.getElem_toArray, List.getElem_cons_succ, List.getElem_cons_zero, List.setIfInBounds_toArray, List.set_cons_succ, List.set_cons_zero]
            refine wpAnyL_take (i := 8) (f0 := 22) (v := ?_) rfl (by decide +kernel) (by decide +kernel) (by decide +kernel) (by decide +kernel) (by decide +kernel) (fun _ _ _ h => h) (Or.inl ⟨by rfl, ?_⟩) hS61 ?_
            rotate_left
            · intro wS hS; obtain ⟨z0, z1, z2, z3, z4, z5, z6, z7, z8, z9⟩ := jCells10 hS.r2; go_simp; (try with_reducible rfl)
            simp only [Act.put, List.getElem_toArray, List.getElem_cons_succ, List.getElem_cons_zero, List.setIfInBounds_toArray, List.set_cons_succ, List.set_cons_zero]
            refine wpAnyL_one (i := 5) (by decide +kernel) (by rfl) (fun K9 hK => ?_)
            rw [if_pos (by rfl)]
            go_simp
            refine (pwas_of ba ma K lr day HD0.out HD1.out p A2 m2 c2 HM2.out (by omega) HPP.out HPZ.out w61 (he.next hS61.up) ((HP.out.below hS61.up).more hS61.up.size) hA WE HWE.out).mono ?_
            rintro e w62 ⟨rfl, hx62⟩
            have hS62 : (QS w A n c p A2 m2 c2) w62 := hS61.below hx62
            replace hA := hA.below hx62
            replace hB := hB.below hx62
            refine hK.out _ _ (Or.inr hS62) ?_
            clear hK K9 hS61 hx62
            try simp only [Act.put, List.getElem_toArray, List.getElem_cons_succ, List.getElem_cons_zero, List.setIfInBounds_toArray, List.set_cons_succ, List.set_cons_zero]
            refine wpAnyL_one (i := 9) (by decide +kernel) (by rfl) (fun K9 hK => ?_)
            rw [if_pos (by rfl)]
            go_simp
            refine (rwas_of bb K M A8 n8 c8 (by omega) day p A2 m2 c2 HM2.out (by omega) HC2.out HPP.out HPZ.out w62 (he.next hS62.up) ((HP.out.below hS62.up).more hS62.up.size) hB WE HWE2.out).mono ?_
            rintro e w63 ⟨rfl, hx63⟩
            have hS63 : (QS w A n c p A2 m2 c2) w63 := hS62.below hx63
            replace hA := hA.below hx63
            replace hB := hB.below hx63
            refine hK.out _ _ (Or.inr hS63) ?_
            clear hK K9 hS62 hx63
            try simp only [Act.put, List.getElem_toArray, List.getElem_cons_succ, List.getElem_cons_zero, List.setIfInBounds_toArray, List.set_cons_succ, List.set_cons_zero]
            refine wpAnyL_take (i := 10) (f0 := 22) (v := ?_) rfl (by decide +kernel) (by decide +kernel) (by decide +kernel) (by decide +kernel) (by decide +kernel) (fun _ _ _ h => h) (Or.inl ⟨by rfl, ?_⟩) hS63 ?_
            rotate_left
            · intro wS hS; go_simp; (try with_reducible rfl)
            simp only [Act.put, List.getElem_toArray, List.getElem_cons_succ, List.getElem_cons_zero, List.setIfInBounds_toArray, List.set_cons_succ, List.set_cons_zero]
            refine wpAnyL_take (i := 11) (f0 := 22) (v := ?_) rfl (by decide +kernel) (by decide +kernel) (by decide +kernel) (by decide +kernel) (by decide +kernel) (fun _ _ _ h => h) (Or.inl ⟨by rfl, ?_⟩) hS63 ?_
            rotate_left
            · intro wS hS; go_simp; (try with_reducible rfl)
            simp only [Act.put, List.getElem_toArray, List.getElem_cons_succ, List.getElem_cons_zero, List.setIfInBounds_toArray, List.set_cons_succ, List.set_cons_zero]
            refine wpAnyL_take (i := 12) (f0 := 22) (v := ?_) rfl (by decide +kernel) (by decide +kernel) (by decide +kernel) (by decide +kernel) (by decide +kernel) (fun _ _ _ h => h) (Or.inl ⟨by rfl, ?_⟩) hS63 ?_
            rotate_left
            · intro wS hS; go_simp; (try with_reducible rfl)
            simp only [Act.put, List.getElem_toArray, List.getElem_cons_succ, List.getElem_cons_zero, List.setIfInBounds_toArray, List.set_cons_succ, List.set_cons_zero]
            refine wpAnyL_take (i := 13) (f0 := 22) (v := ?_) rfl (by decide +kernel) (by decide +kernel) (by decide +kernel) (by decide +kernel) (by decide +kernel) (fun _ _ _ h => h) (Or.inl ⟨by rfl, ?_⟩) hS63 ?_
            rotate_left
            · intro wS hS; go_simp; (try with_reducible rfl)
            simp only [Act.put, List.getElem_toArray, List.getElem_cons_succ, List.getElem_cons_zero, List.setIfInBounds_toArray, List.set_cons_succ, List.set_cons_zero]
            refine wpAnyL_take (i := 15) (f0 := 22) (v := ?_) rfl (by decide +kernel) (by decide +kernel) (by decide +kernel) (by decide +kernel) (by decide +kernel) (fun _ _ _ h => h) (Or.inl ⟨by rfl, ?_⟩) hS63 ?_
            rotate_left
            · intro wS hS; go_simp; (try with_reducible rfl)
            simp only [Act.put, List.getElem_toArray, List.getElem_cons_succ, List.getElem_cons_zero, List.setIfInBounds_toArray, List.set_cons_succ, List.set_cons_zero]
            refine wpAnyL_one (i := 14) (by decide +kernel) (by rfl) (fun K9 hK => ?_)
            rw [if_pos (by rfl)]
            go_simp
            refine (pdays_of ba ma K lr (by omega) w63 hA).mono ?_
            rintro e w64 ⟨⟨AD, cd, rfl, hz⟩, hx64⟩
            rw [HDS.out] at hz ⊢
            have hS64 : (QS w A n c p A2 m2 c2) w64 := hS63.below hx64
            replace hB := hB.below hx64
            refine hK.out _ _ (Or.inr hS64) ?_
            clear hK K9 hS63 hx64
            try simp only [Act.put, List.getElem_toArray, List.getElem_cons_succ, List.getElem_cons_zero, List.setIfInBounds_toArray, List.set_cons_succ, List.set_cons_zero]
            refine wpAnyL_one (i := 16) (by decide +kernel) (by rfl) (fun K9 hK => ?_)
            rw [if_pos (by rfl)]
            go_simp
            refine (rdays_of bb K M A8 n8 c8 (by omega) w64 hB).mono ?_
            rintro e w65 ⟨⟨AE, ce, rfl, hz2⟩, hx65⟩
            replace hz := hz.keep hx65
            have hml : (M.map fun y => y.1).length = M.length := List.length_map ..
            rw [← hml]
            obtain ⟨DL, hDL⟩ : ∃ DL, (M.map fun y => y.1) = DL := ⟨_, rfl⟩
            have hdl : DL.length ≤ 1048576 := by rw [← hDL, hml, hB.len]; omega
            rw [hDL] at hz hz2 ⊢
            clear hml hDL
            have hS65 : (QS w A n c p A2 m2 c2) w65 := hS64.below hx65
            refine hK.out _ _ (Or.inr hS65) ?_
            clear hK K9 hS64 hx65
            try simp only [Act.put, List.getElem_toArray, List.getElem_cons_succ, List.getElem_cons_zero, List.setIfInBounds_toArray, List.set_cons_succ, List.set_cons_zero]
            refine wpAnyL_one (i := 17) (by decide +kernel) (by rfl) (fun K9 hK => ?_)
            rw [if_pos (by rfl)]
            go_simp
            refine (ints_any AD AE cd ce DL DL w65 (by omega) (by omega) hz hz2).mono ?_
            rintro e w66 ⟨rfl, hx66⟩
            rw [decide_eq_true (rfl : DL = DL)]
            have hS66 : (QS w A n c p A2 m2 c2) w66 := hS65.below hx66
            refine hK.out _ _ (Or.inr hS66) ?_
            clear hK K9 hS65 hx66
            try simp only [Act.put, List.getElem_toArray, List.getElem_cons_succ, List.getElem_cons_zero, List.setIfInBounds_toArray, List.set_cons_succ, List.set_cons_zero]
            refine wpAnyL_take (i := 18) (f0 := 22) (v := ?_) rfl (by decide +kernel) (by decide +kernel) (by decide +kernel) (by decide +kernel) (by decide +kernel) (fun _ _ _ h => h) (Or.inl ⟨by rfl, ?_⟩) hS66 ?_
            rotate_left
            · intro wS hS; go_simp; (try with_reducible rfl)
            simp only [Act.put, List.getElem_toArray, List.getElem_cons_succ, List.getElem_cons_zero, List.setIfInBounds_toArray, List.set_cons_succ, List.set_cons_zero]
            refine wpAnyL_take (i := 19) (f0 := 22) (v := ?_) rfl (by decide +kernel) (by decide +kernel) (by decide +kernel) (by decide +kernel) (by decide +kernel) (fun _ _ _ h => h) (Or.inl ⟨by rfl, ?_⟩) hS66 ?_
            rotate_left
            · intro wS hS; go_simp; (try with_reducible rfl)
            simp only [Act.put, List.getElem_toArray, List.getElem_cons_succ, List.getElem_cons_zero, List.setIfInBounds_toArray, List.set_cons_succ, List.set_cons_zero]
            refine wpAnyL_done (by decide +kernel) ?_ _
            refine NoPanic.normal ?_
            go_wp2
            go_ret
            exact ⟨rfl, hS66.up⟩
end Go.Proofs.YtobhpeockinnjaaGreatDoor
/- Lists of things told that came in, opened. No conditions. -/
namespace Go.Proofs.YtobhpeockinnjaaGreatDoor
open Go Go.RowKit Go.ChangeShapes Go.WideShapes Go.ChangeAt Go.WideMaps Go.WideElems Go.Joins Go.Deep
variable {H : Type} {enc : TypeId × Value → H}
set_option maxRecDepth 100000 in
/-- A slice of things told that came in. -/
theorem field_tolds {W : World} {v : Value} {n : Nat} {y : DataW H × List MemPlace} (hf : DataW.trod enc Tryz.prog W 0 (fun _ => true) true n 30 [v] = some y) :
    ∃ (A : Option Addr) (c : Nat) (l : List Td), v = .slice A l.length c ∧ l.length ≤ 9223372036854775807 ∧ (∀ x ∈ l, TdW x) ∧ Tds W W.heap.size A l ∧ l.length ≤ c := by
  rcases open_slice Tryz.underlying30 hf with ⟨hcs, _⟩ | ⟨a, len, cap, m, k, D, Pl, hcs, _, hl, hm, hmm, _, hi⟩
  · simp only [List.cons.injEq, and_true] at hcs
    subst hcs
    exact ⟨none, 0, [], rfl, by simp, by simp, ⟨fun h => by simp at h⟩, by simp⟩
  · simp only [List.cons.injEq, and_true] at hcs
    subst hcs
    simp only [if_true] at hmm
    unfold maxLen at hm
    rw [cTold] at hi
    have h1 : ∀ i, ∃ v : Td, i < len → TdW v ∧ ∀ (j : Nat) (u : Value), (tdV v)[j]? = some u → W.cell? ((a.add (i * 4)).add j) = some u := fun i => by
      by_cases hil : i < len
      · obtain ⟨cs', hc, ht⟩ := hi i (by omega)
        obtain ⟨v, hcs, hw⟩ := trod_told ht
        obtain ⟨_, hcl, hat⟩ := World.cells?_some hc
        refine ⟨v, fun _ => ⟨hw, fun j u hj => ?_⟩⟩
        have hj4 : j < 4 := (List.getElem?_eq_some_iff.1 hj).1
        rw [hat j hj4, hcs]
        exact hj
      · exact ⟨⟨0, 0, ⟨#[]⟩, false⟩, fun h => absurd h hil⟩
    obtain ⟨f, hfv⟩ := Classical.axiomOfChoice h1
    have hlen : ((List.range len).map f).length = len := by rw [List.length_map, List.length_range]
    refine ⟨some a, cap, (List.range len).map f, by rw [hlen], by rw [hlen]; omega, fun v hv => ?_, ⟨fun h0 => ?_⟩, by rw [hlen]; exact hl⟩
    · obtain ⟨i, hir, rfl⟩ := List.mem_map.1 hv
      exact (hfv i (List.mem_range.1 hir)).1
    · rw [hlen] at h0
      obtain ⟨_, hc0⟩ := hfv 0 h0
      have h00 : (a.add (0 * 4)).add 0 = a := by unfold Addr.add; simp
      obtain ⟨e, hb⟩ := addr_of_cell (h00 ▸ hc0 0 _ rfl)
      refine ⟨a.block, a.off, by rw [← e], hb, fun j v hj i u hu => ?_⟩
      have hjl : j < len := by
        have := (List.getElem?_eq_some_iff.1 hj).1
        rw [hlen] at this; exact this
      rw [List.getElem?_map, List.getElem?_range hjl] at hj
      obtain rfl : f j = v := by simpa using hj
      obtain ⟨_, hc⟩ := hfv j hjl
      have e2 : (a.add (j * 4)).add i = ⟨a.block, a.off + j * 4 + i, none⟩ := by
        rw [e]
        rw [add_plain, add_plain]
      rw [← e2]
      exact hc i u hu
set_option maxRecDepth 100000 in
theorem open_tolds {W : World} {v : Value} {d : DataW H} {p : List MemPlace} {base : Nat} (hv : Value.okWide Tryz.prog W .any base 30 v) (h : DataW.Trod enc Tryz.prog W 0 (fun _ => true) true 30 v d p) :
    ∃ (A : Option Addr) (c : Nat) (l : List Td), v = .slice A l.length c ∧ l.length ≤ 9223372036854775807 ∧ (∀ x ∈ l, TdW x) ∧ Tds W W.heap.size A l ∧ l.length ≤ c := by
  obtain ⟨a0, len, cap, rfl⟩ := okWide_slice Tryz.underlying30 hv
  obtain ⟨fuel, hf⟩ := h
  exact field_tolds (by simpa [Value.cells] using hf)
end Go.Proofs.YtobhpeockinnjaaGreatDoor
/- Proofs that came in, opened. No conditions. -/
namespace Go.Proofs.YtobhpeockinnjaaGreatDoor
open Go Go.RowKit Go.ChangeShapes Go.WideShapes Go.ChangeAt Go.WideMaps Go.WideElems Go.Joins Go.Deep
variable {H : Type} {enc : TypeId × Value → H}
/-- What a proof that came in is like. -/
structure PfW (p : Pf) : Prop where
  c0 : -9223372036854775808 ≤ p.count
  c1 : p.count ≤ 9223372036854775807
  i0 : -9223372036854775808 ≤ p.idx
  i1 : p.idx ≤ 9223372036854775807
  tw : ItW p.it
  pl : p.path.length ≤ 9223372036854775807
  ps : ∀ s ∈ p.path, s.size ≤ 9223372036854775807
  sum : p.it.id.size + p.it.parent.size + p.it.number.size ≤ 9223372036854775807
set_option maxRecDepth 100000 in
/-- An item that came in has texts within reach. -/
theorem item_sized {W : World} {k : Nat} {v : Dg.It} {x : DataW H × List MemPlace} (h : DataW.trod enc Tryz.prog W 0 (fun _ => true) true k 26 (itV v).toList = some x)
    (hsz : ∀ n ∈ x.1.weights Tryz.prog 26, n ≤ reachBytes) : v.id.size ≤ 140737488351232 ∧ v.parent.size ≤ 140737488351232 ∧ v.number.size ≤ 140737488351232 := by
  obtain ⟨xs, n, _, hx, _, hxl, hf⟩ := DataW.trod_struct Tryz.underlying26 h
  match xs, hxl, hx with
  | [y0, y1, y2, y3, y4, y5, y6], _, hx =>
    have f1 : DataW.trod enc Tryz.prog W 0 (fun _ => true) true n 9 [.string v.id] = some y1 := by simpa [cellsStr, itV] using hf 1 _ rfl
    have f2 : DataW.trod enc Tryz.prog W 0 (fun _ => true) true n 9 [.string v.parent] = some y2 := by simpa [cellsStr, itV] using hf 2 _ rfl
    have f3 : DataW.trod enc Tryz.prog W 0 (fun _ => true) true n 9 [.string v.number] = some y3 := by simpa [cellsStr, itV] using hf 3 _ rfl
    obtain ⟨b1, e1, g1, _⟩ := DataW.trod_string Tryz.underlying9 f1
    obtain ⟨b2, e2, g2, _⟩ := DataW.trod_string Tryz.underlying9 f2
    obtain ⟨b3, e3, g3, _⟩ := DataW.trod_string Tryz.underlying9 f3
    simp only [List.cons.injEq, and_true, Value.string.injEq] at e1 e2 e3
    subst e1 e2 e3
    have hd : x.1 = .agg [y0.1, y1.1, y2.1, y3.1, y4.1, y5.1, y6.1] := congrArg Prod.fst hx
    have m1 : v.id.data.toList.length ∈ x.1.weights Tryz.prog 26 := by
      rw [hd, g1]
      simp only [DataW.weights, Tryz.underlying26, DataW.weightsEach, List.map_cons, List.map_nil, List.mem_append, List.mem_cons, true_or, or_true]
    have m2 : v.parent.data.toList.length ∈ x.1.weights Tryz.prog 26 := by
      rw [hd, g2]
      simp only [DataW.weights, Tryz.underlying26, DataW.weightsEach, List.map_cons, List.map_nil, List.mem_append, List.mem_cons, true_or, or_true]
    have m3 : v.number.data.toList.length ∈ x.1.weights Tryz.prog 26 := by
      rw [hd, g3]
      simp only [DataW.weights, Tryz.underlying26, DataW.weightsEach, List.map_cons, List.map_nil, List.mem_append, List.mem_cons, true_or, or_true]
    have q1 := hsz _ m1
    have q2 := hsz _ m2
    have q3 := hsz _ m3
    unfold reachBytes at q1 q2 q3
    rw [Array.length_toList] at q1 q2 q3
    exact ⟨q1, q2, q3⟩
theorem cPath : Tryz.prog.cellsOf 27 = 1 := by kernel_rfl
set_option maxRecDepth 100000 in
theorem open_proof {W : World} {v : Value} {d : DataW H} {pl : List MemPlace} {base : Nat} (hv : Value.okWide Tryz.prog W .any base 29 v) (h : DataW.Trod enc Tryz.prog W 0 (fun _ => true) true 29 v d pl)
    (hsz : ∀ x ∈ d.weights Tryz.prog 29, x ≤ reachBytes) :
    ∃ (p : Pf) (A : Option Addr) (c : Nat), v = .agg #[.int .i64 p.count, .int .i64 p.idx, .int .i64 p.it.kind, .string p.it.id, .string p.it.parent, .string p.it.number, .string p.it.north, .string p.it.south, .bool p.it.gone, .slice A p.path.length c] ∧ PfW p ∧ Strs W W.heap.size A p.path ∧ p.path.length ≤ c := by
  obtain ⟨cs, rfl, hcz⟩ := okWide_struct Tryz.underlying29 hv
  obtain ⟨l⟩ := cs
  match l, hcz.trans cProof with
  | [c0, c1, c2, c3, c4, c5, c6, c7, c8, c9], _ =>
    obtain ⟨fuel, hf0⟩ := h
    obtain ⟨xs, n, _, hx, _, hxl, hf⟩ := DataW.trod_struct Tryz.underlying29 hf0
    match xs, hxl, hx with
    | [y0, y1, y2, y3], _, hx =>
      have f0 : DataW.trod enc Tryz.prog W 0 (fun _ => true) true n 3 [c0] = some y0 := by simpa [Value.cells, cIntC] using hf 0 _ rfl
      have f1 : DataW.trod enc Tryz.prog W 0 (fun _ => true) true n 3 [c1] = some y1 := by simpa [Value.cells, cIntC] using hf 1 _ rfl
      have f2 : DataW.trod enc Tryz.prog W 0 (fun _ => true) true n 26 [c2, c3, c4, c5, c6, c7, c8] = some y2 := by simpa [Value.cells, cItem] using hf 2 _ rfl
      have f3 : DataW.trod enc Tryz.prog W 0 (fun _ => true) true n 27 [c9] = some y3 := by simpa [Value.cells, cPath] using hf 3 _ rfl
      obtain ⟨m, e0, _, w0⟩ := DataW.trod_int Tryz.underlying3 f0
      obtain ⟨m', e1, _, w1⟩ := DataW.trod_int Tryz.underlying3 f1
      obtain ⟨t, e2, wt⟩ := trod_item f2
      rw [e2] at f2
      have hd : d = .agg [y0.1, y1.1, y2.1, y3.1] := congrArg Prod.fst hx
      obtain ⟨z1, z2, z3⟩ := item_sized f2 (fun n hn => hsz n (by
        rw [hd]
        simp only [DataW.weights, Tryz.underlying29, DataW.weightsEach, List.map_cons, List.map_nil, List.mem_append]
        exact Or.inr (Or.inr (Or.inl hn))))
      obtain ⟨A, c, q, rfl, a1, a2, a3, a4⟩ := field_strs f3
      unfold itV at e2
      simp only [List.cons.injEq, and_true] at e0 e1 e2
      obtain ⟨rfl, rfl, rfl, rfl, rfl, rfl, rfl⟩ := e2
      subst e0 e1
      obtain ⟨m0, m1⟩ := bounds_i64 w0
      obtain ⟨k0, k1⟩ := bounds_i64 w1
      exact ⟨⟨m, m', t, q⟩, A, c, rfl, ⟨m0, m1, k0, k1, wt, a1, a2, by show t.id.size + t.parent.size + t.number.size ≤ _; omega⟩, a3, a4⟩
end Go.Proofs.YtobhpeockinnjaaGreatDoor

