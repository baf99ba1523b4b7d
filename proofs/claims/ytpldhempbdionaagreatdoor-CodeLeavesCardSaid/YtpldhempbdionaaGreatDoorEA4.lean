/- Walks and laws of this seat, several texts in one: C21, C22, C23, C24, C25, C26, C31, C32, C33, C27, C28, C34, C30A, Post, Open, Open3, CO. No conditions but those that each theorem states. -/
import Derived.Test.YtpldhempbdionaaGreatDoorEA3
import Derived.Test.YtpldhempbdionaaGreatDoorShelf
import Derived.Laws.StructEq
import Derived.Below
import Derived.ChangeSame
import Derived.ProofKit
import Derived.OpenShut
import Derived.LaidMore
import Derived.Lay
import Derived.SevenTiedAt
import Derived.Stop.Joined
import Derived.SliceStrings
import Derived.Lib.SmallJoins
import Derived.Deep.Slices
/- The lines of package code's Text. No conditions but those that each theorem states. -/
namespace Go.Proofs.YtpldhempbdionaaGreatDoor
open Go Go.RowKit Go.Sort Go.Maps
/-- A text, or a dash. -/
def orS (s : ByteArray) : ByteArray := if s = Dg.nil8 then ⟨#[45]⟩ else s
theorem L_orS (s : ByteArray) : Dg.L (orS s) = Dg.orL (Dg.L s) := by
  unfold orS Dg.orL
  by_cases h : s = Dg.nil8
  · rw [if_pos h, if_pos (by rw [h]; rfl)]; rfl
  · rw [if_neg h, if_neg (show ¬ Dg.L s = [] from fun e => h (Dg.L_inj e))]
theorem join_words : ∀ ws : List (List UInt8), Lib.join ws [32] = Dg.joinW ws
  | [] => rfl
  | [a] => by unfold Lib.join Dg.joinW; simp [List.intercalate]
  | a :: b :: r => by
    have ih := join_words (b :: r)
    unfold Dg.joinW
    rw [← ih]
    unfold Lib.join
    simp [List.intercalate]
theorem BldStep.after {bb n0 : Nat} {W W1 W' : World} {v : Value} {l' : List UInt8} (h : BldStep bb n0 W1 W' v l') (hb : Below W.heap.size W W1) : BldStep bb n0 W W' v l' := by
  obtain ⟨v', h1, h2, h3⟩ := h
  exact ⟨v', h1, (Off.of_below hb).trans h2 (fun _ h => Or.inl h), fun g hg => (h3 g hg).imp id (fun h => Nat.le_trans hb.size h)⟩
theorem bw_len {l : List UInt8} {J : ByteArray} {n : Nat} (h1 : l.length + n ≤ 2199023255552) (h2 : J.size + 1 = n) : l.length + (J ++ ⟨#[10]⟩).size ≤ 2199023255552 := by
  have h3 : (J ++ ⟨#[10]⟩).size = J.size + 1 := by rw [ByteArray.size_append]; rfl
  rw [h3, h2]
  exact h1
theorem own_row4 {w : World} {B g : Nat} (hB : B ≤ g) {a b c d : ByteArray} (h : w.heap[g]? = some (.cells #[.string a, .string b, .string c, .string d] 9 (0, 0))) : OwnS w B (.slice (some ⟨g, 0, none⟩) 4 4) [a, b, c, d] :=
  ⟨by simp, Or.inr ⟨g, 4, _, rfl, hB, h, Nat.le_refl _, by unfold maxLen; omega, rfl, rfl⟩⟩
theorem row4_get {w : World} {g : Nat} {a b c d : ByteArray} (h : w.heap[g]? = some (.cells #[.string a, .string b, .string c, .string d] 9 (0, 0))) : ∀ (j : Nat) x, [a, b, c, d][j]? = some x → w.cell? ⟨g, 0 + j, none⟩ = some (.string x) := fun j s hj => by
  rw [cell_of_row _ _ _ _ _ (0, 0) h, Nat.zero_add, ← Array.getElem?_toList]
  have h9 : ([a, b, c, d].map Value.string)[j]? = some (.string s) := by rw [List.getElem?_map, hj]; rfl
  exact h9
set_option maxRecDepth 100000 in
set_option maxHeartbeats 8000000 in
theorem text1_any (x : Dg.It) (hkd : x.kind = 1 ∨ x.kind = 2) (hz : ∀ s ∈ Dg.fieldsI x, s.size ≤ 1073741824) (bb n0 : Nat) (hbb : bb < n0) (v : Value) (l : List UInt8) (w : World) (h : BldAt bb n0 w v l) (hlen : l.length + (Dg.lineL x).length ≤ 2199023255552) (hn : n0 ≤ w.heap.size) (R : List UInt8) (hR : l ++ Dg.lineL x = R) :
    Calls Tryz.prog 49 #[.agg #[.int .i64 x.kind, .string x.id, .string x.parent, .string x.number, .string x.north, .string x.south, .bool x.gone], .pointer (some ⟨bb, 0, none⟩)] w fun e w' => e = .returned (.tuple #[]) ∧ BldStep bb n0 w w' v R := by
  have HR := hide hR; have HZ := hide hz; have HB := hide h; have HKD := hide hkd; have HLEN := hide hlen
  clear hR hz h hkd hlen
  have hx1 := Below.news (Below.refl w.heap.size w) (.cells #[.int .i64 x.kind, .string x.id, .string x.parent, .string x.number, .string x.north, .string x.south, .bool x.gone] 31)
  have hrow := heap_alloc_new w (.cells #[.int .i64 x.kind, .string x.id, .string x.parent, .string x.number, .string x.north, .string x.south, .bool x.gone] 31)
  have hsz1 : (w.alloc (.cells #[.int .i64 x.kind, .string x.id, .string x.parent, .string x.number, .string x.north, .string x.south, .bool x.gone] 31)).heap.size = w.heap.size + 1 := by simp
  go_enter Tryz.func49, Tryz.ntmps49
  go_upto_region 1 with (fail)
  obtain ⟨c0, c1, c2, c3, c4, c5, c6⟩ := iCells hrow
  generalize w.alloc (.cells #[.int .i64 x.kind, .string x.id, .string x.parent, .string x.number, .string x.north, .string x.south, .bool x.gone] 31) = w1 at *
  go_upto_region 2 with (fail)
  have hx2 := bnext hx1 (Below.news (Below.refl w1.heap.size w1) (.cells #[.string ⟨#[97, 114, 116, 105, 99, 108, 101]⟩, .string x.id, .string x.parent, .string x.number] 9))
  have hrow2 := heap_alloc_new w1 (.cells #[.string ⟨#[97, 114, 116, 105, 99, 108, 101]⟩, .string x.id, .string x.parent, .string x.number] 9)
  have hrow1 := iNext hrow (Below.news (Below.refl w1.heap.size w1) (.cells #[.string ⟨#[97, 114, 116, 105, 99, 108, 101]⟩, .string x.id, .string x.parent, .string x.number] 9))
  rw [hsz1] at hrow2
  generalize w1.alloc (.cells #[.string ⟨#[97, 114, 116, 105, 99, 108, 101]⟩, .string x.id, .string x.parent, .string x.number] 9) = w2 at *
  clear c0 c1 c2 c3 c4 c5 c6 hrow hx1 hsz1
  go_wp2
  go_loopw [4] (fun kv wr => ∃ P Q, ((kv = .int .i64 2 ∧ P = x.parent ∧ Q = x.number) ∨ (kv = .int .i64 3 ∧ P = orS x.parent ∧ Q = x.number) ∨ (kv = .int .i64 4 ∧ P = orS x.parent ∧ Q = orS x.number)) ∧ wr.heap[w.heap.size + 1]? = some (.cells #[.string ⟨#[97, 114, 116, 105, 99, 108, 101]⟩, .string x.id, .string P, .string Q] 9 (0, 0)) ∧ wr.heap[w.heap.size]? = some (.cells #[.int .i64 x.kind, .string x.id, .string x.parent, .string x.number, .string x.north, .string x.south, .bool x.gone] 31 (0, 0)) ∧ Below w.heap.size w wr) (fun kv _ => 4 - (intOf kv).toNat)
  case atStart => exact ⟨_, _, Or.inl ⟨rfl, rfl, rfl⟩, hrow2, hrow1, hx2⟩
  case round =>
    obtain ⟨P, Q, hk, hr2, hr1, hb⟩ := hrel
    clear hrow2 hrow1 hx2
    have w3 : wr.cell? ⟨w.heap.size + 1, 2, none⟩ = some (.string P) := by rw [cell_of_row _ _ _ _ _ (0, 0) hr2]; rfl
    have w4 : wr.cell? ⟨w.heap.size + 1, 3, none⟩ = some (.string Q) := by rw [cell_of_row _ _ _ _ _ (0, 0) hr2]; rfl
    rcases hk with ⟨rfl, hP, hQ⟩ | ⟨rfl, hP, hQ⟩ | ⟨rfl, hP, hQ⟩
    · have fz := frozen_of_row _ (w.heap.size + 1) 2 _ _ hr2
      have hpe : P.toList.isEmpty = decide (P = Dg.nil8) := (emp_iff _).symm
      have HP := hide hP; have HQ := hide hQ
      clear hP hQ
      by_cases hp : P = Dg.nil8
      · have e1 : P.toList.isEmpty = true := hpe.trans (decide_eq_true hp)
        have HE := hide hp
        clear hp hpe
        go_wp2
        go_roundw
        case rel => exact ⟨⟨#[45]⟩, Q, Or.inr (Or.inl ⟨rfl, by rw [← HP.out]; unfold orS; rw [if_pos HE.out], HQ.out⟩), setCell_rowN hr2 2 _, (Below.heap_setCell _ _ _ _ (show w.heap.size ≠ w.heap.size + 1 by omega)).trans hr1, hb.setCell (p := ⟨w.heap.size + 1, 2, none⟩) (show w.heap.size ≤ w.heap.size + 1 by omega) _⟩
        case measure => simp [intOf]
      · have e1 : P.toList.isEmpty = false := hpe.trans (decide_eq_false hp)
        have HE := hide hp
        clear hp hpe
        go_wp2
        go_roundw
        case rel => exact ⟨P, Q, Or.inr (Or.inl ⟨rfl, by unfold orS; rw [← HP.out, if_neg HE.out], HQ.out⟩), hr2, hr1, hb⟩
        case measure => simp [intOf]
    · have fz := frozen_of_row _ (w.heap.size + 1) 3 _ _ hr2
      have hpe : Q.toList.isEmpty = decide (Q = Dg.nil8) := (emp_iff _).symm
      have HP := hide hP; have HQ := hide hQ
      clear hP hQ
      by_cases hp : Q = Dg.nil8
      · have e1 : Q.toList.isEmpty = true := hpe.trans (decide_eq_true hp)
        have HE := hide hp
        clear hp hpe
        go_wp2
        go_roundw
        case rel => exact ⟨P, ⟨#[45]⟩, Or.inr (Or.inr ⟨rfl, HP.out, by rw [← HQ.out]; unfold orS; rw [if_pos HE.out]⟩), setCell_rowN hr2 3 _, (Below.heap_setCell _ _ _ _ (show w.heap.size ≠ w.heap.size + 1 by omega)).trans hr1, hb.setCell (p := ⟨w.heap.size + 1, 3, none⟩) (show w.heap.size ≤ w.heap.size + 1 by omega) _⟩
        case measure => simp [intOf]
      · have e1 : Q.toList.isEmpty = false := hpe.trans (decide_eq_false hp)
        have HE := hide hp
        clear hp hpe
        go_wp2
        go_roundw
        case rel => exact ⟨P, Q, Or.inr (Or.inr ⟨rfl, HP.out, by unfold orS; rw [← HQ.out, if_neg HE.out]⟩), hr2, hr1, hb⟩
        case measure => simp [intOf]
    · skip
      have HP := hide hP; have HQ := hide hQ
      clear hP hQ
      have w5 : wr.cell? ⟨w.heap.size + 1, 0, none⟩ = some (.string ⟨#[97, 114, 116, 105, 99, 108, 101]⟩) := by rw [cell_of_row _ _ _ _ _ (0, 0) hr2]; rfl
      have fz := frozen_of_row _ (w.heap.size + 1) 0 _ _ hr2
      obtain ⟨c0, c1, c2, c3, c4, c5, c6⟩ := iCells hr1
      rcases HKD.out with kz | kz
      · skip
        rw [kz] at c0
        go_upto_region 11 with (fail)
        have hr4 := setCell_rowN hr2 0 (.string ⟨#[100, 105, 118, 105, 115, 105, 111, 110]⟩)
        have hr5 : (wr.setCell ⟨w.heap.size + 1, 0, none⟩ (.string ⟨#[100, 105, 118, 105, 115, 105, 111, 110]⟩)).heap[w.heap.size]? = some (.cells #[.int .i64 x.kind, .string x.id, .string x.parent, .string x.number, .string x.north, .string x.south, .bool x.gone] 31 (0, 0)) := (Below.heap_setCell _ _ _ _ (show w.heap.size ≠ w.heap.size + 1 by omega)).trans hr1
        have hb4 := hb.setCell (p := ⟨w.heap.size + 1, 0, none⟩) (show w.heap.size ≤ w.heap.size + 1 by omega) (.string ⟨#[100, 105, 118, 105, 115, 105, 111, 110]⟩)
        clear c0 c1 c2 c3 c4 c5 c6 fz w3 w4 w5
        generalize wr.setCell ⟨w.heap.size + 1, 0, none⟩ (.string ⟨#[100, 105, 118, 105, 115, 105, 111, 110]⟩) = u4 at *
        obtain ⟨c0, c1, c2, c3, c4, c5, c6⟩ := iCells hr5
        rw [kz] at c0
        go_wp2_with fail
        have hJ : Lib.join (([⟨#[100, 105, 118, 105, 115, 105, 111, 110]⟩, x.id, P, Q] : List ByteArray).map (·.data.toList)) (⟨#[32]⟩ : ByteArray).data.toList = Dg.joinW (Dg.wordsI x) := by
          rw [show (⟨#[32]⟩ : ByteArray).data.toList = [32] from rfl, join_words]
          refine congrArg Dg.joinW ?_
          unfold Dg.wordsI
          rw [if_pos kz]
          rw [← L_orS, ← L_orS, ← HP.out, ← HQ.out]
          
          rfl
        have hjl : (Dg.lineL x).length = (Dg.joinW (Dg.wordsI x)).length + 1 := by unfold Dg.lineL; rw [List.length_append, List.length_singleton]
        have hjz : (Lib.join (([⟨#[100, 105, 118, 105, 115, 105, 111, 110]⟩, x.id, P, Q] : List ByteArray).map (·.data.toList)) (⟨#[32]⟩ : ByteArray).data.toList).length ≤ 140737488355328 := by
          have := HLEN.out
          rw [hJ]; omega
        refine (Tryz.strings_Join (w.heap.size + 1) 0 4 [⟨#[100, 105, 118, 105, 115, 105, 111, 110]⟩, x.id, P, Q] ⟨#[32]⟩ u4 (row4_get hr4) (lt_of_block hr4) (by simp) (by simp) hjz).mono ?_
        rintro e u7 ⟨rfl, hb7⟩
        obtain ⟨JW, hJW⟩ : ∃ JW : ByteArray, (⟨(Lib.join (([⟨#[100, 105, 118, 105, 115, 105, 111, 110]⟩, x.id, P, Q] : List ByteArray).map (·.data.toList)) (⟨#[32]⟩ : ByteArray).data.toList).toArray⟩ : ByteArray) = JW := ⟨_, rfl⟩
        rw [hJW]
        have hJL : Dg.L JW = Dg.joinW (Dg.wordsI x) := by rw [← hJW, ← hJ]; rfl
        have hJS : JW.size + 1 = (Dg.lineL x).length := by rw [← Dg.len_L, hJL, hjl]
        clear hJW hJ hjl hjz
        have HJL := hide hJL
        clear hJL
        have hb8 := bnext hb4 hb7
        have hJSz : JW.size ≤ 2199023255552 := by have := HLEN.out; omega
        have HJS := hide hJS
        clear hJS
        go_wp2_with fail
        have hw1 := HB.out.next hb8
        have hw2 := bw_len HLEN.out HJS.out
        have hw3 := Nat.le_trans hn hb8.size
        have hw := bwrite_any bb n0 hbb (JW ++ ⟨#[10]⟩) v l u7 hw1 hw2 hw3
        refine hw.mono ?_
        clear hw hw1 hw2 hw3
        rintro e u8 ⟨⟨rr, rfl⟩, hstep⟩
        rw [L_app, HJL.out, show Dg.joinW (Dg.wordsI x) ++ Dg.L ⟨#[10]⟩ = Dg.lineL x from rfl, HR.out] at hstep
        go_wp2
        go_end0
        exact ⟨rfl, hstep.after hb8⟩
      · cases hgo : x.gone with
        | true =>
          rw [kz] at c0
          rw [hgo] at c6
          go_upto_region 11 with (fail)
          have hr4 := setCell_rowN hr2 0 (.string ⟨#[114, 101, 112, 101, 97, 108, 101, 100]⟩)
          have hr5 : (wr.setCell ⟨w.heap.size + 1, 0, none⟩ (.string ⟨#[114, 101, 112, 101, 97, 108, 101, 100]⟩)).heap[w.heap.size]? = some (.cells #[.int .i64 x.kind, .string x.id, .string x.parent, .string x.number, .string x.north, .string x.south, .bool x.gone] 31 (0, 0)) := (Below.heap_setCell _ _ _ _ (show w.heap.size ≠ w.heap.size + 1 by omega)).trans hr1
          have hb4 := hb.setCell (p := ⟨w.heap.size + 1, 0, none⟩) (show w.heap.size ≤ w.heap.size + 1 by omega) (.string ⟨#[114, 101, 112, 101, 97, 108, 101, 100]⟩)
          clear c0 c1 c2 c3 c4 c5 c6 fz w3 w4 w5
          generalize wr.setCell ⟨w.heap.size + 1, 0, none⟩ (.string ⟨#[114, 101, 112, 101, 97, 108, 101, 100]⟩) = u4 at *
          obtain ⟨c0, c1, c2, c3, c4, c5, c6⟩ := iCells hr5
          rw [kz] at c0
          go_upto_region 12 with (fail)
          clear c0 c1 c2 c3 c4 c5 c6
          have hmx : Tryz.prog.follows .mixedOrders = true := by kernel_rfl
          refine wp_region_noPanic ?_
          refine wp_region_L (fun X_ : World => X_.heap[w.heap.size + 1]? = some (.cells #[.string ⟨#[114, 101, 112, 101, 97, 108, 101, 100]⟩, .string x.id, .string P, .string Q] 9 (0, 0)) ∧ X_.heap[w.heap.size]? = some (.cells #[.int .i64 x.kind, .string x.id, .string x.parent, .string x.number, .string x.north, .string x.south, .bool x.gone] 31 (0, 0))) 8 hmx ?_
          have hb5 : Below w.heap.size w u4.drew := bnext hb4 (Below.refl u4.heap.size u4).drew
          have hHeld : (fun X_ : World => X_.heap[w.heap.size + 1]? = some (.cells #[.string ⟨#[114, 101, 112, 101, 97, 108, 101, 100]⟩, .string x.id, .string P, .string Q] 9 (0, 0)) ∧ X_.heap[w.heap.size]? = some (.cells #[.int .i64 x.kind, .string x.id, .string x.parent, .string x.number, .string x.north, .string x.south, .bool x.gone] 31 (0, 0))) u4.drew := ⟨hr4, hr5⟩
          clear hr4 hr5
          generalize u4.drew = u5 at *
          clear hb4
          refine wpAnyL_take (i := 0) (f0 := 12) (v := ?_) rfl (by decide +kernel) (by decide +kernel) (by decide +kernel) (by decide +kernel) (by decide +kernel) (fun _ _ _ h => h) (Or.inl ⟨by rfl, ?_⟩) hHeld ?_
          rotate_left
          · intro wS hS; obtain ⟨hS1, hS2⟩ := hS; go_simp; (try with_reducible rfl)
          simp only [Act.put, List.getElem_toArray, List.getElem_cons_succ, List.getElem_cons_zero, List.setIfInBounds_toArray, List.set_cons_succ, List.set_cons_zero]
          refine wpAnyL_take (i := 1) (f0 := 12) (v := ?_) rfl (by decide +kernel) (by decide +kernel) (by decide +kernel) (by decide +kernel) (by decide +kernel) (fun _ _ _ h => h) (Or.inl ⟨by rfl, ?_⟩) hHeld ?_
          rotate_left
          · intro wS hS; obtain ⟨hS1, hS2⟩ := hS; go_simp; (try with_reducible rfl)
          simp only [Act.put, List.getElem_toArray, List.getElem_cons_succ, List.getElem_cons_zero, List.setIfInBounds_toArray, List.set_cons_succ, List.set_cons_zero]
          refine wpAnyL_take (i := 2) (f0 := 12) (v := ?_) rfl (by decide +kernel) (by decide +kernel) (by decide +kernel) (by decide +kernel) (by decide +kernel) (fun _ _ _ h => h) (Or.inl ⟨by rfl, ?_⟩) hHeld ?_
          rotate_left
          · intro wS hS; obtain ⟨hS1, hS2⟩ := hS; obtain ⟨c0, c1, c2, c3, c4, c5, c6⟩ := iCells hS2; go_simp; (try with_reducible rfl)
          simp only [Act.put, List.getElem_toArray, List.getElem_cons_succ, List.getElem_cons_zero, List.setIfInBounds_toArray, List.set_cons_succ, List.set_cons_zero]
          refine wpAnyL_take (i := 4) (f0 := 12) (v := ?_) rfl (by decide +kernel) (by decide +kernel) (by decide +kernel) (by decide +kernel) (by decide +kernel) (fun _ _ _ h => h) (Or.inl ⟨by rfl, ?_⟩) hHeld ?_
          rotate_left
          · intro wS hS; obtain ⟨hS1, hS2⟩ := hS; go_simp; (try with_reducible rfl)
          simp only [Act.put, List.getElem_toArray, List.getElem_cons_succ, List.getElem_cons_zero, List.setIfInBounds_toArray, List.set_cons_succ, List.set_cons_zero]
          refine wpAnyL_take (i := 5) (f0 := 12) (v := ?_) rfl (by decide +kernel) (by decide +kernel) (by decide +kernel) (by decide +kernel) (by decide +kernel) (fun _ _ _ h => h) (Or.inl ⟨by rfl, ?_⟩) hHeld ?_
          rotate_left
          · intro wS hS; obtain ⟨hS1, hS2⟩ := hS; obtain ⟨c0, c1, c2, c3, c4, c5, c6⟩ := iCells hS2; go_simp; (try with_reducible rfl)
          simp only [Act.put, List.getElem_toArray, List.getElem_cons_succ, List.getElem_cons_zero, List.setIfInBounds_toArray, List.set_cons_succ, List.set_cons_zero]
          refine wpAnyL_one (i := 3) (by decide +kernel) (by rfl) (fun K hK => ?_)
          rw [if_pos (by rfl)]
          go_simp
          refine (quoted_any x.north (HZ.out _ (by unfold Dg.fieldsI; simp)) u5 (Dg.B (Dg.quoteL (Dg.L x.north))) rfl).mono ?_
          rintro e u6 ⟨rfl, hb6⟩
          have hx6 := bnext hb5 hb6
          have hHeld6 : (fun X_ : World => X_.heap[w.heap.size + 1]? = some (.cells #[.string ⟨#[114, 101, 112, 101, 97, 108, 101, 100]⟩, .string x.id, .string P, .string Q] 9 (0, 0)) ∧ X_.heap[w.heap.size]? = some (.cells #[.int .i64 x.kind, .string x.id, .string x.parent, .string x.number, .string x.north, .string x.south, .bool x.gone] 31 (0, 0))) u6 := ⟨iNext hHeld.1 hb6, iNext hHeld.2 hb6⟩
          refine hK.out _ _ (Or.inr hHeld6) ?_
          clear hK K hHeld hb6 hb5
          try simp only [Act.put, List.getElem_toArray, List.getElem_cons_succ, List.getElem_cons_zero, List.setIfInBounds_toArray, List.set_cons_succ, List.set_cons_zero]
          refine wpAnyL_one (i := 6) (by decide +kernel) (by rfl) (fun K hK => ?_)
          rw [if_pos (by rfl)]
          go_simp
          refine (quoted_any x.south (HZ.out _ (by unfold Dg.fieldsI; simp)) u6 (Dg.B (Dg.quoteL (Dg.L x.south))) rfl).mono ?_
          rintro e u7 ⟨rfl, hb7⟩
          have hx7 := bnext hx6 hb7
          have hHeld7 : (fun X_ : World => X_.heap[w.heap.size + 1]? = some (.cells #[.string ⟨#[114, 101, 112, 101, 97, 108, 101, 100]⟩, .string x.id, .string P, .string Q] 9 (0, 0)) ∧ X_.heap[w.heap.size]? = some (.cells #[.int .i64 x.kind, .string x.id, .string x.parent, .string x.number, .string x.north, .string x.south, .bool x.gone] 31 (0, 0))) u7 := ⟨iNext hHeld6.1 hb7, iNext hHeld6.2 hb7⟩
          refine hK.out _ _ (Or.inr hHeld7) ?_
          clear hK K hHeld6 hb7 hx6
          try simp only [Act.put, List.getElem_toArray, List.getElem_cons_succ, List.getElem_cons_zero, List.setIfInBounds_toArray, List.set_cons_succ, List.set_cons_zero]
          obtain ⟨qn, hqn⟩ : ∃ q, Dg.B (Dg.quoteL (Dg.L x.north)) = q := ⟨_, rfl⟩
          obtain ⟨qs, hqs⟩ : ∃ q, Dg.B (Dg.quoteL (Dg.L x.south)) = q := ⟨_, rfl⟩
          rw [hqn, hqs]
          have HQN := hide hqn; have HQS := hide hqs
          clear hqn hqs
          refine wpAnyL_one (i := 7) (by decide +kernel) (by rfl) (fun K hK => ?_)
          rw [if_pos (by rfl)]
          go_simp
          have hn8 := Below.news (Below.refl u7.heap.size u7) (.cells #[.string qn, .string qs] 9)
          have hx8 := bnext hx7 hn8
          have hHeld8 : (fun X_ : World => X_.heap[w.heap.size + 1]? = some (.cells #[.string ⟨#[114, 101, 112, 101, 97, 108, 101, 100]⟩, .string x.id, .string P, .string Q] 9 (0, 0)) ∧ X_.heap[w.heap.size]? = some (.cells #[.int .i64 x.kind, .string x.id, .string x.parent, .string x.number, .string x.north, .string x.south, .bool x.gone] 31 (0, 0))) (u7.alloc (.cells #[.string qn, .string qs] 9)) := ⟨iNext hHeld7.1 hn8, iNext hHeld7.2 hn8⟩
          refine hK.out _ _ (Or.inr hHeld8) ?_
          clear hK K hHeld7 hn8
          try simp only [Act.put, List.getElem_toArray, List.getElem_cons_succ, List.getElem_cons_zero, List.setIfInBounds_toArray, List.set_cons_succ, List.set_cons_zero]
          refine wpAnyL_one (i := 8) (by decide +kernel) (by rfl) (fun K hK => ?_)
          rw [if_pos (by rfl)]
          refine wp_ag (.tmp 38) (.tmp 45) (by rfl) w.heap.size _ [⟨#[114, 101, 112, 101, 97, 108, 101, 100]⟩, x.id, P, Q] [qn, qs] (by rfl) (own_row4 (Nat.le_succ _) hHeld8.1) ⟨u7.heap.size, 0, none⟩ 2 2 (by rfl) rfl (fun j s hj => by
            rw [addr_off, cell_of_row _ _ _ _ _ (0, 0) (heap_alloc_new u7 _), Nat.zero_add, ← Array.getElem?_toList]
            have h9 : ([qn, qs].map Value.string)[j]? = some (.string s) := by rw [List.getElem?_map, hj]; rfl
            exact h9) (by simp) hx8.size ?_
          intro v8 u8 hO8 hg8 hat8
          have hx9 := hx8.grown hg8 hx8.size (fun k hk => by cases hk; exact Nat.le_succ _)
          refine hK.out _ _ (Or.inl (by decide +kernel)) ?_
          clear hK K hHeld8 hg8 hat8 hx8 hx7
          try simp only [Act.put, List.getElem_toArray, List.getElem_cons_succ, List.getElem_cons_zero, List.setIfInBounds_toArray, List.set_cons_succ, List.set_cons_zero]
          refine wpAnyL_one (i := 9) (by decide +kernel) (by rfl) (fun K hK => ?_)
          rw [if_pos (by rfl)]
          go_simp
          refine hK.out _ _ (Or.inl (by decide +kernel)) ?_
          clear hK K
          try simp only [Act.put, List.getElem_toArray, List.getElem_cons_succ, List.getElem_cons_zero, List.setIfInBounds_toArray, List.set_cons_succ, List.set_cons_zero]
          obtain ⟨A8, c8, e8, hc8, hS8⟩ := hO8.strs
          subst e8
          obtain ⟨g8, off8, rfl, hg8, hcell8⟩ := hS8.at_ (by simp)
          clear hO8 hS8
          refine wpAnyL_done (by decide +kernel) ?_ _
          refine NoPanic.normal ?_
          go_wp2_with fail
          have hJ : Lib.join (([⟨#[114, 101, 112, 101, 97, 108, 101, 100]⟩, x.id, P, Q, qn, qs] : List ByteArray).map (·.data.toList)) (⟨#[32]⟩ : ByteArray).data.toList = Dg.joinW (Dg.wordsI x) := by
            rw [show (⟨#[32]⟩ : ByteArray).data.toList = [32] from rfl, join_words]
            refine congrArg Dg.joinW ?_
            unfold Dg.wordsI
            rw [if_neg (show ¬ x.kind = 1 by rw [kz]; decide), if_pos hgo]
            rw [← L_orS, ← L_orS, ← HP.out, ← HQ.out]
            rw [← HQN.out, ← HQS.out]
            rfl
          have hjl : (Dg.lineL x).length = (Dg.joinW (Dg.wordsI x)).length + 1 := by unfold Dg.lineL; rw [List.length_append, List.length_singleton]
          have hjz : (Lib.join (([⟨#[114, 101, 112, 101, 97, 108, 101, 100]⟩, x.id, P, Q, qn, qs] : List ByteArray).map (·.data.toList)) (⟨#[32]⟩ : ByteArray).data.toList).length ≤ 140737488355328 := by
            have := HLEN.out
            rw [hJ]; omega
          refine (Tryz.strings_Join g8 off8 c8 [⟨#[114, 101, 112, 101, 97, 108, 101, 100]⟩, x.id, P, Q, qn, qs] ⟨#[32]⟩ u8 hcell8 hg8 (by simp) hc8 hjz).mono ?_
          rintro e u7 ⟨rfl, hb7⟩
          obtain ⟨JW, hJW⟩ : ∃ JW : ByteArray, (⟨(Lib.join (([⟨#[114, 101, 112, 101, 97, 108, 101, 100]⟩, x.id, P, Q, qn, qs] : List ByteArray).map (·.data.toList)) (⟨#[32]⟩ : ByteArray).data.toList).toArray⟩ : ByteArray) = JW := ⟨_, rfl⟩
          rw [hJW]
          have hJL : Dg.L JW = Dg.joinW (Dg.wordsI x) := by rw [← hJW, ← hJ]; rfl
          have hJS : JW.size + 1 = (Dg.lineL x).length := by rw [← Dg.len_L, hJL, hjl]
          clear hJW hJ hjl hjz
          have HJL := hide hJL
          clear hJL
          have hb8 := bnext hx9 hb7
          have hJSz : JW.size ≤ 2199023255552 := by have := HLEN.out; omega
          have HJS := hide hJS
          clear hJS
          go_wp2_with fail
          have hw1 := HB.out.next hb8
          have hw2 := bw_len HLEN.out HJS.out
          have hw3 := Nat.le_trans hn hb8.size
          have hw := bwrite_any bb n0 hbb (JW ++ ⟨#[10]⟩) v l u7 hw1 hw2 hw3
          refine hw.mono ?_
          clear hw hw1 hw2 hw3
          rintro e u8 ⟨⟨rr, rfl⟩, hstep⟩
          rw [L_app, HJL.out, show Dg.joinW (Dg.wordsI x) ++ Dg.L ⟨#[10]⟩ = Dg.lineL x from rfl, HR.out] at hstep
          go_wp2
          go_end0
          exact ⟨rfl, hstep.after hb8⟩
        | false =>
          rw [kz] at c0
          rw [hgo] at c6
          go_upto_region 12 with (fail)
          have hr4 := hr2; have hr5 := hr1; have hb4 := hb
          clear c0 c1 c2 c3 c4 c5 c6 fz w3 w4 w5 hr2 hr1 hb
          generalize wr = u4 at *
          have hmx : Tryz.prog.follows .mixedOrders = true := by kernel_rfl
          refine wp_region_noPanic ?_
          refine wp_region_L (fun X_ : World => X_.heap[w.heap.size + 1]? = some (.cells #[.string ⟨#[97, 114, 116, 105, 99, 108, 101]⟩, .string x.id, .string P, .string Q] 9 (0, 0)) ∧ X_.heap[w.heap.size]? = some (.cells #[.int .i64 x.kind, .string x.id, .string x.parent, .string x.number, .string x.north, .string x.south, .bool x.gone] 31 (0, 0))) 8 hmx ?_
          have hb5 : Below w.heap.size w u4.drew := bnext hb4 (Below.refl u4.heap.size u4).drew
          have hHeld : (fun X_ : World => X_.heap[w.heap.size + 1]? = some (.cells #[.string ⟨#[97, 114, 116, 105, 99, 108, 101]⟩, .string x.id, .string P, .string Q] 9 (0, 0)) ∧ X_.heap[w.heap.size]? = some (.cells #[.int .i64 x.kind, .string x.id, .string x.parent, .string x.number, .string x.north, .string x.south, .bool x.gone] 31 (0, 0))) u4.drew := ⟨hr4, hr5⟩
          clear hr4 hr5
          generalize u4.drew = u5 at *
          clear hb4
          refine wpAnyL_take (i := 0) (f0 := 12) (v := ?_) rfl (by decide +kernel) (by decide +kernel) (by decide +kernel) (by decide +kernel) (by decide +kernel) (fun _ _ _ h => h) (Or.inl ⟨by rfl, ?_⟩) hHeld ?_
          rotate_left
          · intro wS hS; obtain ⟨hS1, hS2⟩ := hS; go_simp; (try with_reducible rfl)
          simp only [Act.put, List.getElem_toArray, List.getElem_cons_succ, List.getElem_cons_zero, List.setIfInBounds_toArray, List.set_cons_succ, List.set_cons_zero]
          refine wpAnyL_take (i := 1) (f0 := 12) (v := ?_) rfl (by decide +kernel) (by decide +kernel) (by decide +kernel) (by decide +kernel) (by decide +kernel) (fun _ _ _ h => h) (Or.inl ⟨by rfl, ?_⟩) hHeld ?_
          rotate_left
          · intro wS hS; obtain ⟨hS1, hS2⟩ := hS; go_simp; (try with_reducible rfl)
          simp only [Act.put, List.getElem_toArray, List.getElem_cons_succ, List.getElem_cons_zero, List.setIfInBounds_toArray, List.set_cons_succ, List.set_cons_zero]
          refine wpAnyL_take (i := 2) (f0 := 12) (v := ?_) rfl (by decide +kernel) (by decide +kernel) (by decide +kernel) (by decide +kernel) (by decide +kernel) (fun _ _ _ h => h) (Or.inl ⟨by rfl, ?_⟩) hHeld ?_
          rotate_left
          · intro wS hS; obtain ⟨hS1, hS2⟩ := hS; obtain ⟨c0, c1, c2, c3, c4, c5, c6⟩ := iCells hS2; go_simp; (try with_reducible rfl)
          simp only [Act.put, List.getElem_toArray, List.getElem_cons_succ, List.getElem_cons_zero, List.setIfInBounds_toArray, List.set_cons_succ, List.set_cons_zero]
          refine wpAnyL_take (i := 4) (f0 := 12) (v := ?_) rfl (by decide +kernel) (by decide +kernel) (by decide +kernel) (by decide +kernel) (by decide +kernel) (fun _ _ _ h => h) (Or.inl ⟨by rfl, ?_⟩) hHeld ?_
          rotate_left
          · intro wS hS; obtain ⟨hS1, hS2⟩ := hS; go_simp; (try with_reducible rfl)
          simp only [Act.put, List.getElem_toArray, List.getElem_cons_succ, List.getElem_cons_zero, List.setIfInBounds_toArray, List.set_cons_succ, List.set_cons_zero]
          refine wpAnyL_take (i := 5) (f0 := 12) (v := ?_) rfl (by decide +kernel) (by decide +kernel) (by decide +kernel) (by decide +kernel) (by decide +kernel) (fun _ _ _ h => h) (Or.inl ⟨by rfl, ?_⟩) hHeld ?_
          rotate_left
          · intro wS hS; obtain ⟨hS1, hS2⟩ := hS; obtain ⟨c0, c1, c2, c3, c4, c5, c6⟩ := iCells hS2; go_simp; (try with_reducible rfl)
          simp only [Act.put, List.getElem_toArray, List.getElem_cons_succ, List.getElem_cons_zero, List.setIfInBounds_toArray, List.set_cons_succ, List.set_cons_zero]
          refine wpAnyL_one (i := 3) (by decide +kernel) (by rfl) (fun K hK => ?_)
          rw [if_pos (by rfl)]
          go_simp
          refine (quoted_any x.north (HZ.out _ (by unfold Dg.fieldsI; simp)) u5 (Dg.B (Dg.quoteL (Dg.L x.north))) rfl).mono ?_
          rintro e u6 ⟨rfl, hb6⟩
          have hx6 := bnext hb5 hb6
          have hHeld6 : (fun X_ : World => X_.heap[w.heap.size + 1]? = some (.cells #[.string ⟨#[97, 114, 116, 105, 99, 108, 101]⟩, .string x.id, .string P, .string Q] 9 (0, 0)) ∧ X_.heap[w.heap.size]? = some (.cells #[.int .i64 x.kind, .string x.id, .string x.parent, .string x.number, .string x.north, .string x.south, .bool x.gone] 31 (0, 0))) u6 := ⟨iNext hHeld.1 hb6, iNext hHeld.2 hb6⟩
          refine hK.out _ _ (Or.inr hHeld6) ?_
          clear hK K hHeld hb6 hb5
          try simp only [Act.put, List.getElem_toArray, List.getElem_cons_succ, List.getElem_cons_zero, List.setIfInBounds_toArray, List.set_cons_succ, List.set_cons_zero]
          refine wpAnyL_one (i := 6) (by decide +kernel) (by rfl) (fun K hK => ?_)
          rw [if_pos (by rfl)]
          go_simp
          refine (quoted_any x.south (HZ.out _ (by unfold Dg.fieldsI; simp)) u6 (Dg.B (Dg.quoteL (Dg.L x.south))) rfl).mono ?_
          rintro e u7 ⟨rfl, hb7⟩
          have hx7 := bnext hx6 hb7
          have hHeld7 : (fun X_ : World => X_.heap[w.heap.size + 1]? = some (.cells #[.string ⟨#[97, 114, 116, 105, 99, 108, 101]⟩, .string x.id, .string P, .string Q] 9 (0, 0)) ∧ X_.heap[w.heap.size]? = some (.cells #[.int .i64 x.kind, .string x.id, .string x.parent, .string x.number, .string x.north, .string x.south, .bool x.gone] 31 (0, 0))) u7 := ⟨iNext hHeld6.1 hb7, iNext hHeld6.2 hb7⟩
          refine hK.out _ _ (Or.inr hHeld7) ?_
          clear hK K hHeld6 hb7 hx6
          try simp only [Act.put, List.getElem_toArray, List.getElem_cons_succ, List.getElem_cons_zero, List.setIfInBounds_toArray, List.set_cons_succ, List.set_cons_zero]
          obtain ⟨qn, hqn⟩ : ∃ q, Dg.B (Dg.quoteL (Dg.L x.north)) = q := ⟨_, rfl⟩
          obtain ⟨qs, hqs⟩ : ∃ q, Dg.B (Dg.quoteL (Dg.L x.south)) = q := ⟨_, rfl⟩
          rw [hqn, hqs]
          have HQN := hide hqn; have HQS := hide hqs
          clear hqn hqs
          refine wpAnyL_one (i := 7) (by decide +kernel) (by rfl) (fun K hK => ?_)
          rw [if_pos (by rfl)]
          go_simp
          have hn8 := Below.news (Below.refl u7.heap.size u7) (.cells #[.string qn, .string qs] 9)
          have hx8 := bnext hx7 hn8
          have hHeld8 : (fun X_ : World => X_.heap[w.heap.size + 1]? = some (.cells #[.string ⟨#[97, 114, 116, 105, 99, 108, 101]⟩, .string x.id, .string P, .string Q] 9 (0, 0)) ∧ X_.heap[w.heap.size]? = some (.cells #[.int .i64 x.kind, .string x.id, .string x.parent, .string x.number, .string x.north, .string x.south, .bool x.gone] 31 (0, 0))) (u7.alloc (.cells #[.string qn, .string qs] 9)) := ⟨iNext hHeld7.1 hn8, iNext hHeld7.2 hn8⟩
          refine hK.out _ _ (Or.inr hHeld8) ?_
          clear hK K hHeld7 hn8
          try simp only [Act.put, List.getElem_toArray, List.getElem_cons_succ, List.getElem_cons_zero, List.setIfInBounds_toArray, List.set_cons_succ, List.set_cons_zero]
          refine wpAnyL_one (i := 8) (by decide +kernel) (by rfl) (fun K hK => ?_)
          rw [if_pos (by rfl)]
          refine wp_ag (.tmp 38) (.tmp 45) (by rfl) w.heap.size _ [⟨#[97, 114, 116, 105, 99, 108, 101]⟩, x.id, P, Q] [qn, qs] (by rfl) (own_row4 (Nat.le_succ _) hHeld8.1) ⟨u7.heap.size, 0, none⟩ 2 2 (by rfl) rfl (fun j s hj => by
            rw [addr_off, cell_of_row _ _ _ _ _ (0, 0) (heap_alloc_new u7 _), Nat.zero_add, ← Array.getElem?_toList]
            have h9 : ([qn, qs].map Value.string)[j]? = some (.string s) := by rw [List.getElem?_map, hj]; rfl
            exact h9) (by simp) hx8.size ?_
          intro v8 u8 hO8 hg8 hat8
          have hx9 := hx8.grown hg8 hx8.size (fun k hk => by cases hk; exact Nat.le_succ _)
          refine hK.out _ _ (Or.inl (by decide +kernel)) ?_
          clear hK K hHeld8 hg8 hat8 hx8 hx7
          try simp only [Act.put, List.getElem_toArray, List.getElem_cons_succ, List.getElem_cons_zero, List.setIfInBounds_toArray, List.set_cons_succ, List.set_cons_zero]
          refine wpAnyL_one (i := 9) (by decide +kernel) (by rfl) (fun K hK => ?_)
          rw [if_pos (by rfl)]
          go_simp
          refine hK.out _ _ (Or.inl (by decide +kernel)) ?_
          clear hK K
          try simp only [Act.put, List.getElem_toArray, List.getElem_cons_succ, List.getElem_cons_zero, List.setIfInBounds_toArray, List.set_cons_succ, List.set_cons_zero]
          obtain ⟨A8, c8, e8, hc8, hS8⟩ := hO8.strs
          subst e8
          obtain ⟨g8, off8, rfl, hg8, hcell8⟩ := hS8.at_ (by simp)
          clear hO8 hS8
          refine wpAnyL_done (by decide +kernel) ?_ _
          refine NoPanic.normal ?_
          go_wp2_with fail
          have hJ : Lib.join (([⟨#[97, 114, 116, 105, 99, 108, 101]⟩, x.id, P, Q, qn, qs] : List ByteArray).map (·.data.toList)) (⟨#[32]⟩ : ByteArray).data.toList = Dg.joinW (Dg.wordsI x) := by
            rw [show (⟨#[32]⟩ : ByteArray).data.toList = [32] from rfl, join_words]
            refine congrArg Dg.joinW ?_
            unfold Dg.wordsI
            rw [if_neg (show ¬ x.kind = 1 by rw [kz]; decide), if_neg (show ¬ x.gone = true by rw [hgo]; decide)]
            rw [← L_orS, ← L_orS, ← HP.out, ← HQ.out]
            rw [← HQN.out, ← HQS.out]
            rfl
          have hjl : (Dg.lineL x).length = (Dg.joinW (Dg.wordsI x)).length + 1 := by unfold Dg.lineL; rw [List.length_append, List.length_singleton]
          have hjz : (Lib.join (([⟨#[97, 114, 116, 105, 99, 108, 101]⟩, x.id, P, Q, qn, qs] : List ByteArray).map (·.data.toList)) (⟨#[32]⟩ : ByteArray).data.toList).length ≤ 140737488355328 := by
            have := HLEN.out
            rw [hJ]; omega
          refine (Tryz.strings_Join g8 off8 c8 [⟨#[97, 114, 116, 105, 99, 108, 101]⟩, x.id, P, Q, qn, qs] ⟨#[32]⟩ u8 hcell8 hg8 (by simp) hc8 hjz).mono ?_
          rintro e u7 ⟨rfl, hb7⟩
          obtain ⟨JW, hJW⟩ : ∃ JW : ByteArray, (⟨(Lib.join (([⟨#[97, 114, 116, 105, 99, 108, 101]⟩, x.id, P, Q, qn, qs] : List ByteArray).map (·.data.toList)) (⟨#[32]⟩ : ByteArray).data.toList).toArray⟩ : ByteArray) = JW := ⟨_, rfl⟩
          rw [hJW]
          have hJL : Dg.L JW = Dg.joinW (Dg.wordsI x) := by rw [← hJW, ← hJ]; rfl
          have hJS : JW.size + 1 = (Dg.lineL x).length := by rw [← Dg.len_L, hJL, hjl]
          clear hJW hJ hjl hjz
          have HJL := hide hJL
          clear hJL
          have hb8 := bnext hx9 hb7
          have hJSz : JW.size ≤ 2199023255552 := by have := HLEN.out; omega
          have HJS := hide hJS
          clear hJS
          go_wp2_with fail
          have hw1 := HB.out.next hb8
          have hw2 := bw_len HLEN.out HJS.out
          have hw3 := Nat.le_trans hn hb8.size
          have hw := bwrite_any bb n0 hbb (JW ++ ⟨#[10]⟩) v l u7 hw1 hw2 hw3
          refine hw.mono ?_
          clear hw hw1 hw2 hw3
          rintro e u8 ⟨⟨rr, rfl⟩, hstep⟩
          rw [L_app, HJL.out, show Dg.joinW (Dg.wordsI x) ++ Dg.L ⟨#[10]⟩ = Dg.lineL x from rfl, HR.out] at hstep
          go_wp2
          go_end0
          exact ⟨rfl, hstep.after hb8⟩
end Go.Proofs.YtpldhempbdionaaGreatDoor
/- The visit of package code's Text. No conditions but those that each theorem states. -/
namespace Go.Proofs.YtpldhempbdionaaGreatDoor
open Go Go.RowKit Go.Sort Go.Maps
set_option maxRecDepth 100000 in
set_option maxHeartbeats 8000000 in
theorem text2_any (l : List Dg.It) (AI : Option Addr) (n c : Nat) (hl : l.length = n) (B0 bb n0 b5 b2 : Nat) (hbb : bb < n0) (k : Nat) (hk : k < l.length) (W : World) (hI : Its W B0 AI l) (hkd : l[k].kind = 1 ∨ l[k].kind = 2) (hz : ∀ s ∈ Dg.fieldsI l[k], s.size ≤ 1073741824)
    (r5 : W.heap[b5]? = some (.cells #[.func (.func 49) #[] #[.pointer (some ⟨bb, 0, none⟩)]] 75 (0, 0))) (r2 : W.heap[b2]? = some (.cells #[.slice AI n c] 24 (0, 0))) (v : Value) (L : List UInt8) (hB : BldAt bb n0 W v L) (hlen : L.length + (Dg.lineL l[k]).length ≤ 2199023255552) (hn0 : n0 ≤ W.heap.size) (A : Option Addr) (m co : Nat) :
    Calls Tryz.prog 53 #[.int .i64 (k : Int), .slice A m co, .pointer (some ⟨b5, 0, none⟩), .pointer (some ⟨b2, 0, none⟩)] W fun e W' => e = .returned (.tuple #[]) ∧ BldStep bb n0 W W' v (L ++ Dg.lineL l[k]) := by
  obtain ⟨b, off, rfl⟩ := hI.some hk
  obtain ⟨x, hx⟩ : ∃ x, l[k] = x := ⟨_, rfl⟩
  rw [hx] at hkd hz hlen ⊢
  have HZ := hide hz; have HX := hide hx; have HKD := hide hkd; have HLEN := hide hlen
  clear hz hx hkd hlen
  have hidx : (k : Int) < (n : Int) := by omega
  have hk0 : (0 : Int) ≤ (k : Int) := by omega
  have en : ∀ args w, (callFunc 49 args).run Tryz.prog w = .ok (.enter 49 args) w := enters_of Tryz.func49 (by kernel_rfl) rfl
  go_enter Tryz.func53, Tryz.ntmps53
  go_upto_region 0 with (fail)
  have hmx : Tryz.prog.follows .mixedOrders = true := by kernel_rfl
  refine wp_region_noPanic ?_
  refine wp_region_L (fun X_ : World => X_.heap[b5]? = some (.cells #[.func (.func 49) #[] #[.pointer (some ⟨bb, 0, none⟩)]] 75 (0, 0)) ∧ X_.heap[b2]? = some (.cells #[.slice (some ⟨b, off, none⟩) n c] 24 (0, 0)) ∧ Its X_ B0 (some ⟨b, off, none⟩) l) 6 hmx ?_
  have hHeld : (fun X_ : World => X_.heap[b5]? = some (.cells #[.func (.func 49) #[] #[.pointer (some ⟨bb, 0, none⟩)]] 75 (0, 0)) ∧ X_.heap[b2]? = some (.cells #[.slice (some ⟨b, off, none⟩) n c] 24 (0, 0)) ∧ Its X_ B0 (some ⟨b, off, none⟩) l) W.drew := ⟨r5, r2, hI.below (Below.refl B0 W).drew⟩
  have hBd : BldAt bb n0 W.drew v L := hB.next (Below.refl W.heap.size W).drew
  have hbd : Below W.heap.size W W.drew := (Below.refl W.heap.size W).drew
  have hnd : n0 ≤ W.drew.heap.size := Nat.le_trans hn0 hbd.size
  generalize W.drew = u0 at *
  clear r5 r2 hI hB
  refine wpAnyL_take (i := 0) (f0 := 12) (v := ?_) rfl (by decide +kernel) (by decide +kernel) (by decide +kernel) (by decide +kernel) (by decide +kernel) (fun _ _ _ h => h) (Or.inl ⟨by rfl, ?_⟩) hHeld ?_
  rotate_left
  · intro wS hS; obtain ⟨hS1, hS2, hS3⟩ := hS; have c9 := iCells0 hS1; go_simp; (try with_reducible rfl)
  simp only [Act.put, List.getElem_toArray, List.getElem_cons_succ, List.getElem_cons_zero, List.setIfInBounds_toArray, List.set_cons_succ, List.set_cons_zero]
  refine wpAnyL_take (i := 1) (f0 := 12) (v := ?_) rfl (by decide +kernel) (by decide +kernel) (by decide +kernel) (by decide +kernel) (by decide +kernel) (fun _ _ _ h => h) (Or.inl ⟨by rfl, ?_⟩) hHeld ?_
  rotate_left
  · intro wS hS; obtain ⟨hS1, hS2, hS3⟩ := hS; go_simp; (try with_reducible rfl)
  simp only [Act.put, List.getElem_toArray, List.getElem_cons_succ, List.getElem_cons_zero, List.setIfInBounds_toArray, List.set_cons_succ, List.set_cons_zero]
  refine wpAnyL_take (i := 2) (f0 := 12) (v := ?_) rfl (by decide +kernel) (by decide +kernel) (by decide +kernel) (by decide +kernel) (by decide +kernel) (fun _ _ _ h => h) (Or.inl ⟨by rfl, ?_⟩) hHeld ?_
  rotate_left
  · intro wS hS; obtain ⟨hS1, hS2, hS3⟩ := hS; have c9 := iCells0 hS2; go_simp; (try with_reducible rfl)
  simp only [Act.put, List.getElem_toArray, List.getElem_cons_succ, List.getElem_cons_zero, List.setIfInBounds_toArray, List.set_cons_succ, List.set_cons_zero]
  refine wpAnyL_take (i := 3) (f0 := 12) (v := ?_) rfl (by decide +kernel) (by decide +kernel) (by decide +kernel) (by decide +kernel) (by decide +kernel) (fun _ _ _ h => h) (Or.inl ⟨by rfl, ?_⟩) hHeld ?_
  rotate_left
  · intro wS hS; obtain ⟨hS1, hS2, hS3⟩ := hS; go_simp; (try with_reducible rfl)
  simp only [Act.put, List.getElem_toArray, List.getElem_cons_succ, List.getElem_cons_zero, List.setIfInBounds_toArray, List.set_cons_succ, List.set_cons_zero]
  refine wpAnyL_take (i := 4) (f0 := 12) (v := ?_) rfl (by decide +kernel) (by decide +kernel) (by decide +kernel) (by decide +kernel) (by decide +kernel) (fun _ _ _ h => h) (Or.inl ⟨by rfl, ?_⟩) hHeld ?_
  rotate_left
  · intro wS hS; obtain ⟨hS1, hS2, hS3⟩ := hS; go_simp; (try with_reducible rfl)
  simp only [Act.put, List.getElem_toArray, List.getElem_cons_succ, List.getElem_cons_zero, List.setIfInBounds_toArray, List.set_cons_succ, List.set_cons_zero]
  refine wpAnyL_take (i := 5) (f0 := 12) (v := ?_) rfl (by decide +kernel) (by decide +kernel) (by decide +kernel) (by decide +kernel) (by decide +kernel) (fun _ _ _ h => h) (Or.inl ⟨by rfl, ?_⟩) hHeld ?_
  rotate_left
  · intro wS hS; obtain ⟨hS1, hS2, hS3⟩ := hS; obtain ⟨hbl, p0, p1, p2, p3, p4, p5, p6⟩ := hS3.cells hk x HX.out; go_simp; (try with_reducible rfl)
  simp only [Act.put, List.getElem_toArray, List.getElem_cons_succ, List.getElem_cons_zero, List.setIfInBounds_toArray, List.set_cons_succ, List.set_cons_zero]
  refine wpAnyL_one (i := 6) (by decide +kernel) (by rfl) (fun K hK => ?_)
  rw [if_pos (by rfl)]
  go_simp
  have hc := text1_any x HKD.out HZ.out bb n0 hbb v L u0 hBd HLEN.out hnd _ rfl
  refine hc.mono ?_
  clear hc
  rintro e u6 ⟨rfl, hstep⟩
  refine hK.out _ _ (Or.inl (by decide +kernel)) ?_
  clear hK K hHeld
  try simp only [Act.put, List.getElem_toArray, List.getElem_cons_succ, List.getElem_cons_zero, List.setIfInBounds_toArray, List.set_cons_succ, List.set_cons_zero]
  refine wpAnyL_done (by decide +kernel) ?_ _
  refine NoPanic.normal ?_
  have HS := hide (hstep.after hbd)
  clear hstep hBd
  go_wp2
  go_end0
  exact ⟨rfl, HS.out⟩
end Go.Proofs.YtpldhempbdionaaGreatDoor
/- Text of package code. No conditions but those that each theorem states. -/
namespace Go.Proofs.YtpldhempbdionaaGreatDoor
open Go Go.RowKit Go.Sort Go.Maps
theorem OwnB.weak {w : World} {B B' : Nat} {v : Value} {l : List UInt8} (h : OwnB w B v l) (hB : B' ≤ B) : OwnB w B' v l := by
  obtain ⟨h1, h2⟩ := h
  refine ⟨h1, ?_⟩
  rcases h2 with h2 | ⟨g, cap, cur, hv, hg, r⟩
  · exact Or.inl h2
  · exact Or.inr ⟨g, cap, cur, hv, Nat.le_trans hB hg, r⟩
theorem BldAt.is {bb n0 : Nat} {W : World} {v : Value} {l : List UInt8} (h : BldAt bb n0 W v l) (hb : bb < n0) : Lib.IsBuilder 69 5 bb bb (Lib.byteCells l) W := by
  obtain ⟨p, hp, hr⟩ := h.row
  have hO : W.ownsRow bb 5 1 v (Lib.byteCells l).length (Lib.byteCells l) := by
    have := h.own.weak (Nat.le_of_lt hb)
    rw [show (Lib.byteCells l).length = l.length by simp [Lib.byteCells]]
    exact this
  have hne : v.ownBlock ≠ some bb := fun e => by have := (h.own.lt e).1; omega
  rcases hp with rfl | rfl
  · exact Or.inl ⟨Nat.le_refl _, v, hr, hO, hne⟩
  · exact Or.inr ⟨Nat.le_refl _, v, hr, hO, hne⟩
theorem bld_visit {l : List Dg.It} {F : Nat} {lb : Array Value} {B0 n0 bo : Nat} (hb0 : B0 ≤ bo) (hbn : bo < n0) (Low : World → Prop) (hLow : ∀ W W', Low W → (∀ g, g < n0 → g ≠ bo → W'.heap[g]? = W.heap[g]?) → Low W') (f : List (List ByteArray) → List UInt8)
    (en : ∀ args w, (callFunc F args).run Tryz.prog w = .ok (.enter F args) w)
    (hc : ∀ (k : Nat) (W : World) (v : Value) (o : List ByteArray) (A : Option Addr) (c : Nat) (vs : List (List ByteArray)) (s : Dg.Wk), k < l.length → Low W → BldAt bo n0 W v (f vs) → n0 ≤ W.heap.size → Dg.walkTo l (k + 1) = some (vs ++ [o], s) → vs.length = k → Strs W W.heap.size A o → o.length ≤ c →
      Calls Tryz.prog F (#[.int .i64 (k : Int), .slice A o.length c] ++ lb) W fun e W' => e = .returned (.tuple #[]) ∧ BldStep bo n0 W W' v (f (vs ++ [o]))) :
    Visit l F lb B0 n0 (fun k S W => ∃ v vs s, S = outS bo v ∧ BldAt bo n0 W v (f vs) ∧ Dg.walkTo l k = some (vs, s) ∧ Low W) where
  enters := en
  stable := fun k S W W' h hS hb => by
    obtain ⟨v, vs, s, rfl, h1, h2, h3⟩ := h
    exact ⟨v, vs, s, rfl, h1.same hS, h2, hLow W W' h3 fun g hg _ => hb.block g hg⟩
  lt := fun k S W h g hg => by
    obtain ⟨v, vs, s, rfl, h1, h2, h3⟩ := h
    rcases mem_outS hg with rfl | e
    · obtain ⟨p, _, hr⟩ := h1.row
      exact ⟨hb0, lt_of_block hr⟩
    · have := h1.own.lt e
      omega
  call := fun k S W o A c vs s hk h hw hvl hS hoc hn => by
    obtain ⟨v, vs0, s0, rfl, h1, h2, h3⟩ := h
    obtain ⟨vs1, s1, o1, e1, _, e2⟩ := Dg.walk_step hk hw
    rw [h2] at e1
    cases e1
    obtain ⟨rfl, e3⟩ := List.append_inj' e2 rfl
    refine (hc k W v o A c vs s hk h3 h1 hn hw hvl hS hoc).mono ?_
    rintro e W' ⟨rfl, v', h4, h5, h6⟩
    refine ⟨rfl, outS bo v', ⟨v', vs ++ [o], s, rfl, h4, hw, hLow W W' h3 fun g hg hgb => h5.block g (by omega) fun hm => ?_⟩, h5, fun g hg => ?_⟩
    · rcases mem_outS hm with e | e
      · exact hgb e
      · have := (h1.own.lt e).1
        omega
    · rcases mem_outS hg with rfl | e
      · exact Or.inl (List.mem_cons_self ..)
      · exact (h6 g e).imp outS_own id
/-- The walk, when its visits write a builder. -/
theorem bld_walk {F : Nat} {lb : Array Value} (l : List Dg.It) (A : Option Addr) (n c : Nat) (hl : l.length = n) (hw : ∀ x ∈ l, ItW x) (hn : n ≤ 1048576) (B0 bo : Nat) (w : World) (hI : Its w B0 A l) (hB : B0 ≤ bo) (hbo : bo < w.heap.size) (Low : World → Prop) (hLow : ∀ W W', Low W → (∀ g, g < w.heap.size → g ≠ bo → W'.heap[g]? = W.heap[g]?) → Low W') (f : List (List ByteArray) → List UInt8)
    (en : ∀ args w, (callFunc F args).run Tryz.prog w = .ok (.enter F args) w)
    (hc : ∀ (k : Nat) (W : World) (v : Value) (o : List ByteArray) (A : Option Addr) (c : Nat) (vs : List (List ByteArray)) (s : Dg.Wk), k < l.length → Low W → BldAt bo w.heap.size W v (f vs) → w.heap.size ≤ W.heap.size → Dg.walkTo l (k + 1) = some (vs ++ [o], s) → vs.length = k → Strs W W.heap.size A o → o.length ≤ c →
      Calls Tryz.prog F (#[.int .i64 (k : Int), .slice A o.length c] ++ lb) W fun e W' => e = .returned (.tuple #[]) ∧ BldStep bo w.heap.size W W' v (f (vs ++ [o])))
    (h0 : BldAt bo w.heap.size w (.slice none 0 0) (f [])) (hl0 : Low w) (R : Bool) (hR : Dg.validC l = R) :
    Calls Tryz.prog 35 #[.agg #[.slice A n c], .func (.func F) #[] lb] w fun e w' => e = .returned (.bool R) ∧ ∃ v L, (R = true → L = f (Dg.visits l)) ∧ BldAt bo w.heap.size w' v L ∧ Low w' ∧ Below bo w w' ∧ w.heap.size ≤ w'.heap.size := by
  refine (walk_any l A n c hl hw hn B0 w hI (by omega) F lb _ (bld_visit hB hbo Low hLow f en hc) [bo] ⟨.slice none 0 0, [], ⟨[], []⟩, rfl, h0, rfl, hl0⟩ R hR).mono ?_
  rintro e w' ⟨rfl, k, S, hk, ⟨v, vs, s, rfl, h1, h2, h3⟩, ho, _⟩
  refine ⟨rfl, v, f vs, fun hr => ?_, h1, h3, ho.below (by omega) (fun g hg => by rw [List.mem_singleton.1 hg]; exact Nat.le_refl _), ho.size⟩
  have := hk hr
  subst this
  rw [hr] at hR
  obtain ⟨s', h4, _⟩ := Dg.valid_walk hR
  rw [hl] at h4
  rw [h2] at h4
  cases h4
  rfl
theorem line_len2 (x : Dg.It) (hx : ∀ s ∈ Dg.fieldsI x, s.size ≤ 10000) : (Dg.lineL x).length ≤ 120100 := by
  have h1 := hx x.id (by unfold Dg.fieldsI; simp)
  have h2 := hx x.parent (by unfold Dg.fieldsI; simp)
  have h3 := hx x.number (by unfold Dg.fieldsI; simp)
  have h4 := hx x.north (by unfold Dg.fieldsI; simp)
  have h5 := hx x.south (by unfold Dg.fieldsI; simp)
  have ho : ∀ s : ByteArray, s.size ≤ 10000 → (Dg.orL (Dg.L s)).length ≤ 20002 := fun s hs => by
    unfold Dg.orL
    split
    · decide
    · rw [Dg.len_L]; omega
  have hq : ∀ s : ByteArray, s.size ≤ 10000 → (Dg.quoteL (Dg.L s)).length ≤ 20002 := fun s hs => by
    unfold Dg.quoteL
    have := Dg.escL_len (Dg.L s)
    rw [Dg.len_L] at this
    rw [List.length_cons, List.length_append, List.length_singleton]
    omega
  have hi : (Dg.L x.id).length ≤ 20002 := by rw [Dg.len_L]; omega
  unfold Dg.lineL
  rw [List.length_append, List.length_singleton]
  have hw : ∀ w ∈ Dg.wordsI x, w.length ≤ 20002 := fun w hw => by
    unfold Dg.wordsI at hw
    split at hw
    · simp only [List.mem_cons, List.not_mem_nil, or_false] at hw
      rcases hw with rfl | rfl | rfl | rfl
      · decide
      · exact hi
      · exact ho _ h2
      · exact ho _ h3
    · simp only [List.mem_cons, List.not_mem_nil, or_false] at hw
      rcases hw with rfl | rfl | rfl | rfl | rfl | rfl
      · split <;> decide
      · exact hi
      · exact ho _ h2
      · exact ho _ h3
      · exact hq _ h4
      · exact hq _ h5
  have hl : (Dg.wordsI x).length ≤ 6 := by unfold Dg.wordsI; split <;> simp
  have := Dg.joinW_len (Dg.wordsI x) 20002 hw
  have : (Dg.wordsI x).length * (20002 + 1) ≤ 6 * (20002 + 1) := Nat.mul_le_mul_right _ hl
  omega
theorem text_len2 : ∀ (l : List Dg.It), (∀ x ∈ l, ∀ s ∈ Dg.fieldsI x, s.size ≤ 10000) → (Dg.textL l).length ≤ l.length * 120100
  | [], _ => Nat.zero_le _
  | x :: l, h => by
    have h1 := line_len2 x (h x (List.mem_cons_self ..))
    have h2 := text_len2 l (fun y hy => h y (List.mem_cons_of_mem _ hy))
    have e : Dg.textL (x :: l) = Dg.lineL x ++ Dg.textL l := by unfold Dg.textL; rw [List.flatMap_cons]
    rw [e, List.length_append, List.length_cons, Nat.add_mul]
    omega
theorem textL_snoc (l : List Dg.It) (k : Nat) (hk : k < l.length) : Dg.textL (l.take (k + 1)) = Dg.textL (l.take k) ++ Dg.lineL l[k] := by
  unfold Dg.textL
  rw [List.take_succ_eq_append_getElem hk, List.flatMap_append]
  simp
theorem textL_room (l : List Dg.It) (k n : Nat) (hl : l.length = n) (hn : n ≤ 10000) (hz : ∀ x ∈ l, ∀ s ∈ Dg.fieldsI x, s.size ≤ 10000) (hk : k < l.length) : (Dg.textL (l.take k)).length + (Dg.lineL l[k]).length ≤ 2199023255552 := by
  have h1 := line_len2 _ (hz _ (List.getElem_mem hk))
  have h2 := text_len2 (l.take k) (fun x hx => hz x (List.mem_of_mem_take hx))
  have h3 : (l.take k).length ≤ 10000 := by rw [List.length_take]; omega
  have h4 : (l.take k).length * 120100 ≤ 10000 * 120100 := Nat.mul_le_mul_right _ h3
  omega
theorem fields_small {x : Dg.It} (h : ∀ s ∈ Dg.fieldsI x, s.size ≤ 10000) : ∀ s ∈ Dg.fieldsI x, s.size ≤ 1073741824 := fun s hs => Nat.le_trans (h s hs) (by decide)
set_option maxRecDepth 100000 in
set_option maxHeartbeats 8000000 in
theorem Code.text_of (l : List Dg.It) (A : Option Addr) (n c : Nat) (hl : l.length = n) (hw : ∀ x ∈ l, ItW x) (hn : n ≤ 10000) (w : World) (hI : Its w w.heap.size A l) (hz : ∀ x ∈ l, ∀ s ∈ Dg.fieldsI x, s.size ≤ 10000) (S : ByteArray) (E : Int) (hS : Dg.textC l = (S, E)) :
    Calls Tryz.prog 22 #[.agg #[.slice A n c]] w fun e w' => e = .returned (.tuple #[.string S, .int .i64 E]) ∧ Below w.heap.size w w' := by
  obtain ⟨r2, rb, rf, hb, hs⟩ := iAlloc3 w (.cells #[.slice A n c] 24) (.cells #[.pointer none, .slice none 0 0] 69) (.cells #[.func (.func 49) #[] #[.pointer (some ⟨w.heap.size + 1, 0, none⟩)]] 75)
  have hmf : ∀ (fn : Fn) (first cap : Array Value) (w : World), (Instr.makeFunc fn first cap).run Tryz.prog w = .ok (.func fn first cap) w := fun _ _ _ _ => rfl
  have HI := hide hI; have HW := hide hw; have HL := hide hl; have HQ := hide hS; have HZ := hide hz
  clear hI hw hl hS hz
  go_enter Tryz.func22, Tryz.ntmps22
  go_wp2_with fail
  obtain ⟨R, hR⟩ : ∃ R, Dg.validC l = R := ⟨_, rfl⟩
  generalize ((w.alloc (.cells #[.slice A n c] 24)).alloc (.cells #[.pointer none, .slice none 0 0] 69)).alloc (.cells #[.func (.func 49) #[] #[.pointer (some ⟨w.heap.size + 1, 0, none⟩)]] 75) = W1 at *
  refine (bld_walk l A n c HL.out HW.out (by omega) w.heap.size (w.heap.size + 1) W1 (HI.out.below hb) (by omega) (by omega) (fun W => W.heap[w.heap.size]? = some (.cells #[.slice A n c] 24 (0, 0)) ∧ W.heap[w.heap.size + 1 + 1]? = some (.cells #[.func (.func 49) #[] #[.pointer (some ⟨w.heap.size + 1, 0, none⟩)]] 75 (0, 0)) ∧ Its W w.heap.size A l)
    (fun W W' h hg => ⟨(hg _ (by omega) (by omega)).trans h.1, (hg _ (by omega) (by omega)).trans h.2.1, h.2.2.same fun g hg' => hg g (by omega) (by omega)⟩) (fun vs => Dg.textL (l.take vs.length)) (enters_of Tryz.func53 (by kernel_rfl) rfl)
    (fun k W v o A' c' vs s hk hlow hO hn0 hwt hvl hS hoc => by
      subst hvl
      have h1 := text2_any l A n c HL.out w.heap.size (w.heap.size + 1) W1.heap.size (w.heap.size + 1 + 1) w.heap.size (by omega) vs.length hk W hlow.2.2 (visit_kind hk hwt) (fields_small (HZ.out _ (List.getElem_mem hk))) hlow.2.1 hlow.1 v _ hO (textL_room l vs.length n HL.out hn HZ.out hk) hn0 A' o.length c'
      rw [← textL_snoc l vs.length hk] at h1
      rw [List.length_append, List.length_singleton]
      exact h1)
    ⟨⟨.pointer none, Or.inl rfl, rb⟩, World.ownsRow_nil _ _ _ _⟩ ⟨r2, rf, HI.out.below hb⟩ R hR).mono ?_
  rintro e w2 ⟨rfl, v, L', hL', hO2, _, hb2, hsz2⟩
  have hb' : Below w.heap.size w w2 := hb.trans (hb2.mono (by omega))
  have hq := HQ.out
  unfold Dg.textC at hq
  rw [hR] at hq
  have HLL := hide hL'
  have hv := hide hR
  have HO2 := hide hO2
  have hnb : Hid (w.heap.size + 1 < W1.heap.size) := by have := hs; show _ < _; omega
  have hnw : Hid (w.heap.size + 1 ≤ w2.heap.size) := by have := hs; show _ ≤ _; omega
  clear hL' hb hb2 r2 rb rf hO2 hR HQ hmf hs hsz2
  cases R with
  | false =>
    rw [if_neg Bool.false_ne_true] at hq
    cases hq
    go_wp2
    go_ret2
    exact ⟨rfl, hb'⟩
  | true =>
    rw [if_pos rfl] at hq
    have e9 := HLL.out rfl
    rw [visits_le l hv.out, List.take_length] at e9
    subst e9
    have HQ2 := hide hq
    clear hq HLL
    go_wp2_with fail
    have hlen := Tryz.Builder_Len (w.heap.size + 1) (w.heap.size + 1) _ w2 (HO2.out.is hnb.out)
    rw [show (Lib.byteCells (Dg.textL l)).length = (Dg.textL l).length by simp [Lib.byteCells]] at hlen
    obtain ⟨N, hN⟩ : ∃ N, (Dg.textL l).length = N := ⟨_, rfl⟩
    rw [hN] at hlen
    refine hlen.mono ?_
    rintro e w3 ⟨rfl, hw3⟩
    subst hw3
    clear hlen
    have HN := hide hN
    clear hN
    have hq2 := HQ2.out
    rw [HN.out] at hq2
    by_cases hbig : 1000000 < N
    · rw [if_pos hbig] at hq2
      cases hq2
      have hbi : (1000000 : Int) < (N : Int) := by omega
      clear HQ2
      go_wp2
      go_ret2
      exact ⟨rfl, hb'⟩
    · rw [if_neg hbig] at hq2
      have hq3 := hide hq2
      have hbi : ¬ (1000000 : Int) < (N : Int) := by omega
      clear HQ2 hq2
      go_wp2_with fail
      have hstr := Tryz.Builder_String_any (w.heap.size + 1) (w.heap.size + 1) _ w3 (HO2.out.is hnb.out) hnw.out
      refine hstr.mono ?_
      rintro e w4 ⟨rfl, hb4⟩
      clear hstr
      have hq4 := hq3.out
      obtain ⟨T, hT⟩ : ∃ T : ByteArray, (⟨(Dg.textL l).toArray⟩ : ByteArray) = T := ⟨_, rfl⟩
      rw [show Dg.B (Dg.textL l) = T from hT] at hq4
      rw [hT]
      cases hq4
      have hb5 : Below w.heap.size w w4 := hb'.trans (hb4.mono (by omega))
      clear hT hq3
      go_wp2
      go_ret2
      exact ⟨rfl, hb5⟩
end Go.Proofs.YtpldhempbdionaaGreatDoor
/- Slices of items of the call's own. No conditions but those that each theorem states. -/
namespace Go.Proofs.YtpldhempbdionaaGreatDoor
open Go Go.RowKit Go.Sort Go.Maps
theorem itemInfo : (Tryz.prog.info? 31).map (fun i => (i.zero, i.size, i.bytes)) = some (some (.agg #[.int .i64 0, .string ⟨#[]⟩, .string ⟨#[]⟩, .string ⟨#[]⟩, .string ⟨#[]⟩, .string ⟨#[]⟩, .bool false]), 7, 96) := by kernel_rfl
def itL (x : Dg.It) : List Value := [.int .i64 x.kind, .string x.id, .string x.parent, .string x.number, .string x.north, .string x.south, .bool x.gone]
/-- Items of the call's own, from block B on. -/
def OwnI (w : World) (B : Nat) (v : Value) (l : List Dg.It) : Prop := w.ownsRow B 31 7 v l.length (l.flatMap itL)
theorem itL_len (l : List Dg.It) : (l.flatMap itL).length = l.length * 7 := by
  induction l with
  | nil => rfl
  | cons c l ih => rw [List.flatMap_cons, List.length_append, ih, List.length_cons]; show 7 + l.length * 7 = _; omega
theorem itL_one (l : List Dg.It) : ∀ u ∈ l.flatMap itL, u.oneCell' = true := fun u hu => by
  obtain ⟨c, _, hc⟩ := List.mem_flatMap.1 hu
  simp only [itL, List.mem_cons, List.not_mem_nil, or_false] at hc
  rcases hc with rfl | rfl | rfl | rfl | rfl | rfl | rfl <;> rfl
theorem itL_get : ∀ (l : List Dg.It) (j i : Nat) (x : Dg.It), l[j]? = some x → i < 7 → (l.flatMap itL)[j * 7 + i]? = (itL x)[i]?
  | [], j, i, c, h, _ => by simp at h
  | a :: l, 0, i, c, h, hi => by
    obtain rfl : a = c := by simpa using h
    rw [List.flatMap_cons, Nat.zero_mul, Nat.zero_add, List.getElem?_append_left (by exact hi)]
  | a :: l, j + 1, i, c, h, hi => by
    have h7 : (itL a).length = 7 := rfl
    rw [List.flatMap_cons, List.getElem?_append_right (by omega), h7, show (j + 1) * 7 + i - 7 = j * 7 + i by omega]
    exact itL_get l j i c (by simpa using h) hi
theorem OwnI.below {w w' : World} {B : Nat} {v : Value} {l : List Dg.It} (h : OwnI w B v l) (hb : Below w.heap.size w w') : OwnI w' B v l := own_below h hb
theorem OwnI.its {w : World} {B : Nat} {v : Value} {l : List Dg.It} (h : OwnI w B v l) : ∃ A c, v = .slice A l.length c ∧ l.length ≤ c ∧ Its w w.heap.size A l := by
  rcases h.2 with ⟨rfl, h0⟩ | ⟨g, cap, cur, rfl, hB, hg, hc, _, hsz, hx⟩
  · obtain rfl := List.length_eq_zero_iff.1 h0
    exact ⟨none, 0, rfl, Nat.le_refl _, Its.nil _ _ _⟩
  · refine ⟨_, cap, rfl, hc, ⟨fun _ => ⟨g, 0, rfl, lt_of_block hg, fun j x hj i u hu => ?_⟩⟩⟩
    have hi : i < 7 := (Array.getElem?_eq_some_iff.1 hu).1
    rw [Nat.zero_add, cell_of_row _ _ _ _ _ (0, 0) hg, ← Array.getElem?_toList]
    have h1 : (cur.toList.take (l.length * 7))[j * 7 + i]? = some u := by
      rw [hx, itL_get l j i x hj hi]
      rw [← Array.getElem?_toList] at hu
      exact hu
    rw [List.getElem?_take] at h1
    split at h1
    · exact h1
    · cases h1
theorem OwnI.lit (w : World) (B : Nat) (hB : B ≤ w.heap.size) (l : List Dg.It) (n : Nat) (hn : l.length = n) (hm : n ≤ 1099511627776) (cs : Array Value) (h : cs.toList = l.flatMap itL) : OwnI (w.alloc (.cells cs 31)) B (.slice (some ⟨w.heap.size, 0, none⟩) n n) l := by
  subst hn
  have h1 : cs.size = l.length * 7 := by rw [← Array.length_toList, h, itL_len]
  have h2 := World.ownsRow_lit (e := 31) (size := 7) w cs l.length hB (by unfold maxLen; omega) h1
  unfold OwnI
  rw [← h]
  exact h2
/-- Cells of items in a row, or none. -/
def SrcI (w : World) (A : Option Addr) (l : List Dg.It) : Prop := l = [] ∨ ∃ b off, A = some ⟨b, off, none⟩ ∧ ∀ (j : Nat) u, (l.flatMap itL)[j]? = some u → w.cell? ⟨b, off + j, none⟩ = some u
theorem Its.src {w : World} {B : Nat} {A : Option Addr} {l : List Dg.It} (h : Its w B A l) : SrcI w A l := by
  rcases Nat.eq_zero_or_pos l.length with h0 | h0
  · exact Or.inl (List.length_eq_zero_iff.1 h0)
  · obtain ⟨b, off, rfl, hb, hc⟩ := h.at_ h0
    refine Or.inr ⟨b, off, rfl, fun j u hu => ?_⟩
    have hjl : j < l.length * 7 := by
      have := (List.getElem?_eq_some_iff.1 hu).1
      rw [itL_len] at this
      exact this
    have hd : j / 7 < l.length := by omega
    have hm : j % 7 < 7 := Nat.mod_lt _ (by omega)
    have hj : j = j / 7 * 7 + j % 7 := by omega
    rw [hj, itL_get l _ _ _ (List.getElem?_eq_getElem hd) hm] at hu
    have := hc (j / 7) _ (List.getElem?_eq_getElem hd) (j % 7) u (by rw [← Array.getElem?_toList]; exact hu)
    rw [hj, show off + (j / 7 * 7 + j % 7) = off + j / 7 * 7 + j % 7 by omega]
    exact this
/-- An append of a slice of items. -/
theorem wp_ai {w : World} {o : Oper} {a : Act} {K : Act → World → Prop} {Q : Exit → Act → World → Prop} (sl x : Operand)
    (ho : o.op = .call { callee := .builtin .append, args := #[sl, x], argTypes := #[22, 22] })
    (B : Nat) (v : Value) (l m : List Dg.It) (hs : a.eval sl = v) (hO : OwnI w B v l) (A : Option Addr) (n cap : Nat) (hx : a.eval x = .slice A n cap) (hn : m.length = n) (hsrc : SrcI w A m)
    (hlen : (l.length + n) * 96 ≤ 140737488355328) (hB : B ≤ w.heap.size)
    (h : ∀ v' w', OwnI w' B v' (l ++ m) → Below B w w' → w.grownBy w' v.ownBlock → K (a.put o.dst v') w') : o.wp Tryz.prog a w K Q := by
  subst hn
  obtain ⟨i, h1, h2, h3, h4⟩ := info_parts itemInfo
  have hrun0 : ∀ c, (Builtin.append_ #[22, 22] o.type #[v, .slice none 0 c]).run Tryz.prog w = .ok v w := fun c => run_append_none (P := Tryz.prog) B 22 o.type 31 i 7 Tryz.underlying22 h1 v l.length _ hO c
  have key : ∃ v' w', (Builtin.append_ #[22, 22] o.type #[v, .slice A m.length cap]).run Tryz.prog w = .ok v' w' ∧ OwnI w' B v' (l ++ m) ∧ Below B w w' ∧ w.grownBy w' v.ownBlock := by
    have hnil : m = [] → ∃ v' w', (Builtin.append_ #[22, 22] o.type #[v, .slice none 0 cap]).run Tryz.prog w = .ok v' w' ∧ OwnI w' B v' (l ++ m) ∧ Below B w w' ∧ w.grownBy w' v.ownBlock := fun h0 => by
      subst h0
      exact ⟨v, w, hrun0 cap, by rw [List.append_nil]; exact hO, Below.refl _ _, ⟨rfl, rfl, rfl, Nat.le_refl _, fun _ _ _ => rfl⟩⟩
    cases A with
    | none =>
      have h0 : m = [] := by
        rcases hsrc with h0 | ⟨_, _, h0, _⟩
        · exact h0
        · cases h0
      rw [show m.length = 0 by rw [h0]; rfl]
      exact hnil h0
    | some ad =>
      obtain ⟨v', w', hr, h5, h6, _, _⟩ := run_append_own_at (P := Tryz.prog) w B 22 o.type 31 i _ 7 96 Tryz.underlying22 h1 h2 h3 h4 rfl (by omega) v l.length _ hO ad m.length cap _ (itL_len m) (fun j u hj => by
        rcases hsrc with h0 | ⟨b, off, h0, hc⟩
        · rw [h0] at hj; cases hj
        · cases h0
          rw [addr_off]
          exact hc j u hj) (itL_one m) (by unfold maxLen; omega) (by omega) hB
      refine ⟨v', w', hr, ?_, (Below.refl B w).grown h6 hB fun k hk => (World.ownsRow.lt hO k hk).1, h6⟩
      unfold OwnI
      rw [List.length_append, List.flatMap_append]
      exact h5
  obtain ⟨v', w', hrun, h5, h6, h7⟩ := key
  unfold Oper.wp execOp
  simp only [ho, resolve, invoke, builtin, Sem.run_bind, Sem.run_pure, Result.andThen_ok, List.map_toArray, List.map_cons, List.map_nil, hs, hx, hrun]
  exact h v' w' h5 h6 h7
theorem step_ai {w : World} {ops : Array Oper} {rest : List Oper} {o : Oper} {a : Act} {Q : Exit → Act → World → Prop} (hgd : Region.wanted o (yielded ops a.tmps) = true) (sl x : Operand)
    (ho : o.op = .call { callee := .builtin .append, args := #[sl, x], argTypes := #[22, 22] })
    (B : Nat) (v : Value) (l m : List Dg.It) (hs : a.eval sl = v) (hO : OwnI w B v l) (A : Option Addr) (n cap : Nat) (hx : a.eval x = .slice A n cap) (hn : m.length = n) (hsrc : SrcI w A m)
    (hlen : (l.length + n) * 96 ≤ 140737488355328) (hB : B ≤ w.heap.size)
    (h : ∀ v' w', OwnI w' B v' (l ++ m) → Below B w w' → w.grownBy w' v.ownBlock → wpList Tryz.prog ops Q rest (a.put o.dst v') w') : wpList Tryz.prog ops Q (o :: rest) a w :=
  wpList_wanted hgd fun _ hK => wp_ai sl x ho B v l m hs hO A n cap hx hn hsrc hlen hB fun v' w' h1 h2 h3 => hK _ _ (h v' w' h1 h2 h3)
end Go.Proofs.YtpldhempbdionaaGreatDoor
/- Few of the reference, few of the laws. No conditions but those that each theorem states. -/
namespace Go.Proofs.YtpldhempbdionaaGreatDoor
open Go Go.RowKit Go.Sort Go.Maps
/-- An item whose strings have at most 500 bytes. -/
def smallI (x : Dg.It) : Bool := decide (x.id.size ≤ 500) && decide (x.parent.size ≤ 500) && decide (x.number.size ≤ 500) && decide (x.north.size ≤ 500) && decide (x.south.size ≤ 500)
def fewC (l : List Dg.It) (m : Nat) : Bool := decide (l.length ≤ m) && (l.take m).all smallI
theorem smallI_iff (x : Dg.It) : smallI x = true ↔ x.id.size ≤ 500 ∧ x.parent.size ≤ 500 ∧ x.number.size ≤ 500 ∧ x.north.size ≤ 500 ∧ x.south.size ≤ 500 := by
  unfold smallI
  simp only [Bool.and_eq_true, decide_eq_true_eq, and_assoc]
theorem fewC_spec {l : List Dg.It} {m : Nat} (h : fewC l m = true) : l.length ≤ m ∧ ∀ x ∈ l, smallI x = true := by
  unfold fewC at h
  rw [Bool.and_eq_true, decide_eq_true_eq] at h
  refine ⟨h.1, fun x hx => ?_⟩
  rw [List.take_of_length_le h.1, List.all_eq_true] at h
  exact h.2 x hx
theorem small_fields {x : Dg.It} (h : smallI x = true) : ∀ s ∈ Dg.fieldsI x, s.size ≤ 500 := fun s hs => by
  obtain ⟨h1, h2, h3, h4, h5⟩ := (smallI_iff x).1 h
  unfold Dg.fieldsI at hs
  simp only [List.mem_cons, List.not_mem_nil, or_false] at hs
  rcases hs with rfl | rfl | rfl | rfl | rfl | rfl
  · unfold Dg.kindW; split <;> (try split) <;> decide
  · exact h1
  · exact h2
  · exact h3
  · exact h4
  · exact h5
theorem fewC_no {l : List Dg.It} {m k : Nat} (hk : k < l.length) (hm : k < m) (h : smallI l[k] = false) : fewC l m = false := by
  unfold fewC
  have : (l.take m).all smallI = false := by
    rw [List.all_eq_false]
    exact ⟨l[k], List.mem_take_iff_getElem.2 ⟨k, by omega, rfl⟩, by rw [h]; exact Bool.false_ne_true⟩
  rw [this, Bool.and_false]
theorem fewC_yes {l : List Dg.It} {m : Nat} (hm : l.length ≤ m) (h : ∀ x ∈ l, smallI x = true) : fewC l m = true := by
  unfold fewC
  rw [decide_eq_true hm, Bool.true_and, List.take_of_length_le hm, List.all_eq_true]
  exact h
theorem fewC_many {l : List Dg.It} {m : Nat} (hm : m < l.length) : fewC l m = false := by
  unfold fewC
  rw [decide_eq_false (by omega), Bool.false_and]
set_option maxRecDepth 100000 in
set_option maxHeartbeats 8000000 in
theorem rfew_of (l : List Dg.It) (A : Option Addr) (n c m : Nat) (hl : l.length = n) (hn : n ≤ 9223372036854775807) (hm : m ≤ 1000) (w : World) (hI : Its w w.heap.size A l) (R : Bool) (hR : fewC l m = R) :
    Calls Tryz.prog 34 #[.agg #[.slice A n c], .int .i64 (m : Int)] w fun e w' => e = .returned (.bool R) ∧ Below w.heap.size w w' := by
  have hx1 := Below.news (Below.refl w.heap.size w) (.cells #[.slice A n c] 24)
  have hrow := heap_alloc_new w (.cells #[.slice A n c] 24)
  have HL := hide hl; have HR := hide hR; have HI := hide hI
  clear hl hR hI
  go_enter Tryz.func34, Tryz.ntmps34
  go_wp2
  go_loopw [5] (fun iv wr => ∃ k : Nat, k ≤ n ∧ k ≤ m ∧ iv = .int .i64 (k : Int) ∧ Below w.heap.size w wr ∧ wr.heap[w.heap.size]? = some (.cells #[.slice A n c] 24 (0, 0)) ∧ Hid (∀ x ∈ l.take k, smallI x = true)) (fun iv _ => n - (intOf iv).toNat)
  case atStart => exact ⟨0, by omega, by omega, rfl, hx1, hrow, fun x hx => by simp at hx⟩
  case round =>
    obtain ⟨k, hk, hkm, rfl, hb, hr, hall⟩ := hrel
    clear hrow hx1
    have hc := iCells0 hr
    by_cases hlt : k < n
    · have hkn : (k : Int) < (n : Int) := by omega
      by_cases hlm : k < m
      · have hkm2 : (k : Int) < (m : Int) := by omega
        have hk0 : (0 : Int) ≤ (k : Int) := by omega
        have hkl : k < l.length := by rw [HL.out]; exact hlt
        have hIr := HI.out.below hb
        obtain ⟨b, off, rfl⟩ := hIr.some hkl
        obtain ⟨x, hx⟩ : ∃ x, l[k] = x := ⟨_, rfl⟩
        obtain ⟨hbl, p0, p1, p2, p3, p4, p5, p6⟩ := hIr.cells hkl x hx
        have HX := hide hx
        clear hx hIr
        have hx2 := Below.news (Below.refl wr.heap.size wr) (.cells #[.int .i64 x.kind, .string x.id, .string x.parent, .string x.number, .string x.north, .string x.south, .bool x.gone] 31)
        have hrx := heap_alloc_new wr (.cells #[.int .i64 x.kind, .string x.id, .string x.parent, .string x.number, .string x.north, .string x.south, .bool x.gone] 31)
        have hr2 := iNext hr hx2
        have hb2 := bnext hb hx2
        go_upto_region 5 with (fail)
        generalize wr.alloc (.cells #[.int .i64 x.kind, .string x.id, .string x.parent, .string x.number, .string x.north, .string x.south, .bool x.gone] 31) = w2 at *
        obtain ⟨c0, c1, c2, c3, c4, c5, c6⟩ := iCells hrx
        clear p0 p1 p2 p3 p4 p5 p6 hc hr hx2 hb
        by_cases s0 : (500 : Int) < (x.id.size : Int)
        · skip
          have E9 := hide (show false = R by rw [← HR.out]; exact (fewC_no hkl hlm (by rw [HX.out]; cases hs : smallI x with | false => rfl | true => exact absurd ((smallI_iff x).1 hs) (by omega))).symm)
          go_wp2
          go_ret
          exact ⟨ret_bool E9.out, hb2⟩
        by_cases s1 : (500 : Int) < (x.parent.size : Int)
        · skip
          have E9 := hide (show false = R by rw [← HR.out]; exact (fewC_no hkl hlm (by rw [HX.out]; cases hs : smallI x with | false => rfl | true => exact absurd ((smallI_iff x).1 hs) (by omega))).symm)
          go_wp2
          go_ret
          exact ⟨ret_bool E9.out, hb2⟩
        by_cases s2 : (500 : Int) < (x.number.size : Int)
        · skip
          have E9 := hide (show false = R by rw [← HR.out]; exact (fewC_no hkl hlm (by rw [HX.out]; cases hs : smallI x with | false => rfl | true => exact absurd ((smallI_iff x).1 hs) (by omega))).symm)
          go_wp2
          go_ret
          exact ⟨ret_bool E9.out, hb2⟩
        by_cases s3 : (500 : Int) < (x.north.size : Int)
        · skip
          have E9 := hide (show false = R by rw [← HR.out]; exact (fewC_no hkl hlm (by rw [HX.out]; cases hs : smallI x with | false => rfl | true => exact absurd ((smallI_iff x).1 hs) (by omega))).symm)
          go_wp2
          go_ret
          exact ⟨ret_bool E9.out, hb2⟩
        by_cases s4 : (500 : Int) < (x.south.size : Int)
        · skip
          have E9 := hide (show false = R by rw [← HR.out]; exact (fewC_no hkl hlm (by rw [HX.out]; cases hs : smallI x with | false => rfl | true => exact absurd ((smallI_iff x).1 hs) (by omega))).symm)
          go_wp2
          go_ret
          exact ⟨ret_bool E9.out, hb2⟩
        have HS := hide (show smallI x = true from (smallI_iff x).2 (by omega))
        go_wp2
        go_roundw
        case rel => exact ⟨k + 1, by omega, by omega, by go_num, hb2, hr2, fun y hy => by
          rw [List.take_succ_eq_append_getElem hkl, HX.out] at hy
          rcases List.mem_append.1 hy with h | h
          · exact hall.out y h
          · rw [List.mem_singleton.1 h]; exact HS.out⟩
        case measure => simp [intOf]; omega
      · obtain rfl : k = m := by omega
        have hkm2 : ¬ (k : Int) < (k : Int) := by omega
        have hnn : ¬ (n : Int) ≤ (k : Int) := by omega
        have hf := fewC_many (l := l) (m := k) (by rw [HL.out]; exact hlt)
        have e9 := HR.out
        rw [hf] at e9
        have E9 := hide e9
        clear hf e9
        go_wp2
        go_ret
        exact ⟨ret_bool E9.out, hb⟩
    · obtain rfl : k = n := by omega
      have hkn : ¬ (k : Int) < (k : Int) := by omega
      have hnn : (k : Int) ≤ (m : Int) := by omega
      have hf := fewC_yes (l := l) (m := m) (by rw [HL.out]; exact hkm) (by have h := hall.out; rw [← HL.out, List.take_length] at h; exact h)
      have e9 := HR.out
      rw [hf] at e9
      have E9 := hide e9
      clear hf e9
      go_wp2
      go_ret
      exact ⟨ret_bool E9.out, hb⟩
end Go.Proofs.YtpldhempbdionaaGreatDoor
/- few of the laws. No conditions but those that each theorem states. -/
namespace Go.Proofs.YtpldhempbdionaaGreatDoor
open Go Go.RowKit Go.Sort Go.Maps
/-- A code as it lies: its items, where, and how many there is room for. -/
structure Cd where
  l : List Dg.It
  A : Option Addr
  c : Nat
/-- Codes in a row. -/
structure Cds (w : World) (b : Nat) (ds : List Cd) : Prop where
  lt : b < w.heap.size
  at_ : ∀ (j : Nat) d, ds[j]? = some d → w.cell? ⟨b, j, none⟩ = some (.slice d.A d.l.length d.c) ∧ Its w w.heap.size d.A d.l ∧ d.l.length ≤ 9223372036854775807
theorem Cds.keep {w w' : World} {b : Nat} {ds : List Cd} (h : Cds w b ds) (hb : Below w.heap.size w w') : Cds w' b ds :=
  ⟨Nat.lt_of_lt_of_le h.lt hb.size, fun j d hj => by
    obtain ⟨h1, h2, h3⟩ := h.at_ j d hj
    exact ⟨(hb.cell (p := ⟨b, j, none⟩) h.lt).trans h1, h2.keep hb, h3⟩⟩
set_option maxRecDepth 100000 in
set_option maxHeartbeats 8000000 in
theorem cfew_of (ds : List Cd) (b n : Nat) (hn : ds.length = n) (hm : n ≤ 1000) (w : World) (hD : Cds w b ds) (R : Bool) (hR : (ds.all fun d => fewC d.l 30) = R) :
    Calls Tryz.prog 10 #[.slice (some ⟨b, 0, none⟩) n n] w fun e w' => e = .returned (.bool R) ∧ Below w.heap.size w w' := by
  have HL := hide hn; have HR := hide hR; have HD := hide hD
  clear hn hR hD
  go_enter Tryz.func10, Tryz.ntmps10
  go_wp2
  go_loopw [3] (fun iv wr => ∃ k : Nat, k ≤ n ∧ iv = .int .i64 (k : Int) ∧ Below w.heap.size w wr ∧ Hid (∀ d ∈ ds.take k, fewC d.l 30 = true)) (fun iv _ => n - (intOf iv).toNat)
  case atStart => exact ⟨0, by omega, rfl, Below.refl _ _, fun x hx => by simp at hx⟩
  case round =>
    obtain ⟨k, hk, rfl, hb, hall⟩ := hrel
    by_cases hlt : k < n
    · have hkn : (k : Int) < (n : Int) := by omega
      have hk0 : (0 : Int) ≤ (k : Int) := by omega
      have hkl : k < ds.length := by rw [HL.out]; exact hlt
      have hDr := HD.out.keep hb
      obtain ⟨d, hd⟩ : ∃ d, ds[k] = d := ⟨_, rfl⟩
      obtain ⟨hc, hI, hdl⟩ := hDr.at_ k d (by rw [List.getElem?_eq_getElem hkl, hd])
      have HDD := hide hd
      clear hd hDr
      have hc' : wr.cell? ⟨b, 0 + k, none⟩ = some (.slice d.A d.l.length d.c) := by rw [Nat.zero_add]; exact hc
      go_wp2_with fail
      obtain ⟨F, hF⟩ : ∃ F, fewC d.l 30 = F := ⟨_, rfl⟩
      refine (rfew_of d.l d.A d.l.length d.c 30 rfl hdl (by omega) wr hI F hF).mono ?_
      rintro e w2 ⟨rfl, hb2⟩
      have hb3 := bnext hb hb2
      clear hc hc' hI
      cases F with
      | true =>
        have HF := hide hF
        clear hF
        go_wp2
        go_roundw
        case rel => exact ⟨k + 1, by omega, by go_num, hb3, fun y hy => by
          rw [List.take_succ_eq_append_getElem hkl, HDD.out] at hy
          rcases List.mem_append.1 hy with h | h
          · exact hall.out y h
          · rw [List.mem_singleton.1 h]; exact HF.out⟩
        case measure => simp [intOf]; omega
      | false =>
        have E9 := hide (show false = R by rw [← HR.out]; exact (List.all_eq_false.2 ⟨d, by rw [← HDD.out]; exact List.getElem_mem hkl, by rw [hF]; exact Bool.false_ne_true⟩).symm)
        clear hF
        go_wp2
        go_ret
        exact ⟨ret_bool E9.out, hb3⟩
    · obtain rfl : k = n := by omega
      have E9 := hide (show true = R by rw [← HR.out]; exact (List.all_eq_true.2 (by have h := hall.out; rw [← HL.out, List.take_length] at h; exact h)).symm)
      go_wp2
      go_ret
      exact ⟨ret_bool E9.out, hb⟩
end Go.Proofs.YtpldhempbdionaaGreatDoor
/- Same of the reference for codes. No conditions but those that each theorem states. -/
namespace Go.Proofs.YtpldhempbdionaaGreatDoor
open Go Go.RowKit Go.Sort Go.Maps
theorem bytes_beq (a b : ByteArray) : (a.toList == b.toList) = true ↔ a = b := by
  rw [beq_iff_eq]
  constructor
  · intro h
    rw [ByteArray.toList_eq, ByteArray.toList_eq] at h
    obtain ⟨⟨x⟩⟩ := a
    obtain ⟨⟨y⟩⟩ := b
    simpa using h
  · rintro rfl; rfl
theorem it_ext {x y : Dg.It} (h1 : x.kind = y.kind) (h2 : x.id = y.id) (h3 : x.parent = y.parent) (h4 : x.number = y.number) (h5 : x.north = y.north) (h6 : x.south = y.south) (h7 : x.gone = y.gone) : x = y := by
  cases x; cases y; simp_all
def sameI (x y : Dg.It) : Bool := (x.kind == y.kind) && ((x.id.toList == y.id.toList) && ((x.parent.toList == y.parent.toList) && ((x.number.toList == y.number.toList) && ((x.north.toList == y.north.toList) && ((x.south.toList == y.south.toList) && (x.gone == y.gone))))))
theorem sameI_iff (x y : Dg.It) : sameI x y = true ↔ x = y := by
  unfold sameI
  rw [Bool.and_eq_true, Bool.and_eq_true, Bool.and_eq_true, Bool.and_eq_true, Bool.and_eq_true, Bool.and_eq_true, bytes_beq, bytes_beq, bytes_beq, bytes_beq, bytes_beq, beq_iff_eq, beq_iff_eq]
  constructor
  · rintro ⟨h1, h2, h3, h4, h5, h6, h7⟩
    exact it_ext h1 h2 h3 h4 h5 h6 h7
  · rintro rfl
    exact ⟨rfl, rfl, rfl, rfl, rfl, rfl, rfl⟩
set_option maxRecDepth 100000 in
theorem item_run (w : World) (x y : Dg.It) : (binOp .neq 31 (.agg #[.int .i64 x.kind, .string x.id, .string x.parent, .string x.number, .string x.north, .string x.south, .bool x.gone]) (.agg #[.int .i64 y.kind, .string y.id, .string y.parent, .string y.number, .string y.north, .string y.south, .bool y.gone])).run Tryz.prog w = .ok (.bool (!sameI x y)) w := by
  have hS : Tryz.prog.underlying 31 = some (.struct (Tryz.prog.fieldsOf 31)) := by kernel_rfl
  have hp : Tryz.prog.stoodInHeld 31 = false := by kernel_rfl
  rw [run_neq_struct, show (10000 : Nat) = 9999 + 1 from rfl, run_equalIn_agg w 9999 31 _ _ hS hp]
  simp only [Program.fieldsOf, Tryz.underlying31]
  have u3 := Tryz.underlying3
  have u4 := Tryz.underlying4
  have u5 := Tryz.underlying9
  have a3 := Tryz.isAgg3
  have a4 := Tryz.isAgg4
  have a5 := Tryz.isAgg9
  have z3 := Tryz.sizeOf3
  have z4 := Tryz.sizeOf4
  have z5 := Tryz.sizeOf9
  go_simp
  unfold sameI
  by_cases h1 : x.kind = y.kind <;> by_cases h2 : x.id.toList = y.id.toList <;> by_cases h3 : x.parent.toList = y.parent.toList <;> by_cases h4 : x.number.toList = y.number.toList <;> by_cases h5 : x.north.toList = y.north.toList <;> by_cases h6 : x.south.toList = y.south.toList <;> by_cases h7 : x.gone = y.gone <;> simp [h1, h2, h3, h4, h5, h6, h7]
end Go.Proofs.YtpldhempbdionaaGreatDoor
/- Same of the reference for codes: the walk. No conditions but those that each theorem states. -/
namespace Go.Proofs.YtpldhempbdionaaGreatDoor
open Go Go.RowKit Go.Sort Go.Maps
attribute [-go_sem] run_neq_struct in
set_option maxRecDepth 100000 in
set_option maxHeartbeats 8000000 in
theorem same18_of (l m : List Dg.It) (A B : Option Addr) (n c k d : Nat) (hl : l.length = n) (hm : m.length = k) (hn : n ≤ 9223372036854775807) (hk : k ≤ 9223372036854775807) (w : World) (hI : Its w w.heap.size A l) (hJ : Its w w.heap.size B m) (R : Bool) (hR : R = true ↔ l = m) :
    Calls Tryz.prog 16 #[.agg #[.slice A n c], .agg #[.slice B k d]] w fun e w' => e = .returned (.bool R) ∧ Below w.heap.size w w' := by
  have hx1 := Below.news (Below.refl w.heap.size w) (.cells #[.slice A n c] 24)
  have hx2 := bnext hx1 (Below.news (Below.refl (w.alloc (.cells #[.slice A n c] 24)).heap.size (w.alloc (.cells #[.slice A n c] 24))) (.cells #[.slice B k d] 24))
  have hr1 := iNext (heap_alloc_new w (.cells #[.slice A n c] 24)) (Below.news (Below.refl (w.alloc (.cells #[.slice A n c] 24)).heap.size (w.alloc (.cells #[.slice A n c] 24))) (.cells #[.slice B k d] 24))
  have hr2 := heap_alloc_new (w.alloc (.cells #[.slice A n c] 24)) (.cells #[.slice B k d] 24)
  have hI2 := hI.keep hx2
  have hJ2 := hJ.keep hx2
  have hz1 : (w.alloc (.cells #[.slice A n c] 24)).heap.size = w.heap.size + 1 := by simp
  rw [hz1] at hr2
  clear hx1 hI hJ hz1
  have HL := hide hl; have HM := hide hm; have HR := hide hR
  clear hl hm hR
  go_enter Tryz.func16, Tryz.ntmps16
  go_upto_region 1 with (fail)
  generalize (w.alloc (.cells #[.slice A n c] 24)).alloc (.cells #[.slice B k d] 24) = w2 at *
  have hc1 := iCells0 hr1
  have hc2 := iCells0 hr2
  by_cases hnk : n = k
  · obtain rfl := hnk
    go_wp2
    clear hc1 hc2
    go_loopw [5] (fun iv wr => ∃ j : Nat, j ≤ n ∧ iv = .int .i64 (j : Int) ∧ Below w.heap.size w wr ∧ Below w2.heap.size w2 wr ∧ Hid (∀ i, i < j → l[i]? = m[i]?)) (fun iv _ => n - (intOf iv).toNat)
    case atStart => exact ⟨0, by omega, rfl, hx2, Below.refl _ _, fun i hi => absurd hi (by omega)⟩
    case round =>
      obtain ⟨j, hj, rfl, hb, hb2, hall⟩ := hrel
      have hc1 := iCells0 (iNext hr1 hb2)
      have hc2 := iCells0 (iNext hr2 hb2)
      have hIr := hI2.keep hb2
      have hJr := hJ2.keep hb2
      by_cases hlt : j < n
      · have hjn : (j : Int) < (n : Int) := by omega
        have hj0 : (0 : Int) ≤ (j : Int) := by omega
        have hjl : j < l.length := by rw [HL.out]; exact hlt
        have hjm : j < m.length := by rw [HM.out]; exact hlt
        obtain ⟨ba, oa, rfl⟩ := hIr.some hjl
        obtain ⟨bb, ob, rfl⟩ := hJr.some hjm
        obtain ⟨x, hx⟩ : ∃ x, l[j] = x := ⟨_, rfl⟩
        obtain ⟨y, hy⟩ : ∃ y, m[j] = y := ⟨_, rfl⟩
        obtain ⟨_, p0, p1, p2, p3, p4, p5, p6⟩ := hIr.cells hjl x hx
        obtain ⟨_, q0, q1, q2, q3, q4, q5, q6⟩ := hJr.cells hjm y hy
        have HX := hide hx; have HY := hide hy
        clear hx hy hIr hJr hI2 hJ2
        obtain ⟨S, hS⟩ : ∃ S, sameI x y = S := ⟨_, rfl⟩
        have hneq : ∀ wx, (binOp .neq 31 (.agg #[.int .i64 x.kind, .string x.id, .string x.parent, .string x.number, .string x.north, .string x.south, .bool x.gone]) (.agg #[.int .i64 y.kind, .string y.id, .string y.parent, .string y.number, .string y.north, .string y.south, .bool y.gone])).run Tryz.prog wx = .ok (.bool (!S)) wx := fun wx => by rw [← hS]; exact item_run wx x y
        have HS := hide hS
        clear hS
        have hqg : Tryz.prog.eqGuardType Tryz.prog.depth 31 = false := by kernel_rfl
        go_upto_region 6 with (fail)
        go_quiet (fail)
        have hbn := below_drewN (Below.refl wr.heap.size wr) nq
        cases S with
        | true =>
          go_wp2
          go_roundw
          case rel => exact ⟨j + 1, by omega, by go_num, bnext hb hbn, bnext hb2 hbn, fun i hi => by
            rcases Nat.lt_or_eq_of_le (Nat.le_of_lt_succ hi) with h | h
            · exact hall.out i h
            · rw [h, List.getElem?_eq_getElem hjl, List.getElem?_eq_getElem hjm, HX.out, HY.out, (sameI_iff x y).1 HS.out]⟩
          case measure => simp [intOf]; omega
        | false =>
          have E9 := hide (show false = R by
            cases hr9 : R with
            | false => rfl
            | true =>
              have h9 := HR.out.1 hr9
              have h8 : x = y := by rw [← HX.out, ← HY.out]; simp only [h9]
              rw [(sameI_iff x y).2 h8] at HS
              exact absurd HS.out (by decide))
          go_wp2
          go_ret
          exact ⟨ret_bool E9.out, bnext hb hbn⟩
      · obtain rfl : n = j := by omega
        have E9 := hide (show true = R from (HR.out.2 (List.ext_getElem? fun i => by
          by_cases hi : i < n
          · exact hall.out i hi
          · rw [List.getElem?_eq_none (by rw [HL.out]; omega), List.getElem?_eq_none (by rw [HM.out]; omega)])).symm)
        go_wp2
        go_ret
        exact ⟨ret_bool E9.out, hb⟩
  · have hnk' : ¬ (n : Int) = (k : Int) := by omega
    have E9 := hide (show false = R by
      cases hr9 : R with
      | false => rfl
      | true => exact absurd (by rw [← HL.out, ← HM.out, HR.out.1 hr9]) hnk)
    clear hnk
    go_wp2
    go_ret
    exact ⟨ret_bool E9.out, hx2⟩
end Go.Proofs.YtpldhempbdionaaGreatDoor
/- Fields of the reference for codes. No conditions but those that each theorem states. -/
namespace Go.Proofs.YtpldhempbdionaaGreatDoor
open Go Go.RowKit Go.Sort Go.Maps
theorem grown_row {u u' : World} {own : Option Nat} {g : Nat} {o : Obj} (hg : u.grownBy u' own) (h : u.heap[g]? = some o) (hne : ∀ k, own = some k → k ≠ g) : u'.heap[g]? = some o :=
  (hg.block g (lt_of_block h) (fun e => hne g e.symm rfl)).trans h
theorem grown_up {B : Nat} {a u u' : World} {own : Option Nat} (hb : Below B a u) (hg : u.grownBy u' own) (hne : ∀ k, own = some k → B ≤ k) (hs : B ≤ a.heap.size := by omega) : Below B a u' :=
  hb.grown hg (Nat.le_trans hs hb.size) hne
theorem fields_snoc {l : List Dg.It} {k : Nat} (hk : k < l.length) : Dg.fieldsC (l.take (k + 1)) = Dg.fieldsC (l.take k) ++ [Dg.kindW l[k], l[k].id, l[k].parent, l[k].number, l[k].north, l[k].south] := by
  rw [List.take_succ_eq_append_getElem hk]
  unfold Dg.fieldsC
  rw [List.flatMap_append, List.flatMap_singleton]
  rfl
theorem fields_len (l : List Dg.It) : (Dg.fieldsC l).length = l.length * 6 := by
  induction l with
  | nil => rfl
  | cons x l ih =>
    show (Dg.fieldsI x ++ Dg.fieldsC l).length = _
    rw [List.length_append, ih, List.length_cons]
    show 6 + l.length * 6 = _
    omega
set_option maxRecDepth 100000 in
set_option maxHeartbeats 8000000 in
theorem fields_of (l : List Dg.It) (A : Option Addr) (n c : Nat) (hl : l.length = n) (hn : n ≤ 1048576) (w : World) (hI : Its w w.heap.size A l) (F : List ByteArray) (hF : Dg.fieldsC l = F) (m : Nat) (hm : F.length = m) :
    Calls Tryz.prog 18 #[.agg #[.slice A n c]] w fun e w' => (∃ A' c', e = .returned (.slice A' m c') ∧ Strs w' w'.heap.size A' F) ∧ Below w.heap.size w w' := by
  have hx1 := Below.news (Below.refl w.heap.size w) (.cells #[.slice A n c] 24)
  have hrow := heap_alloc_new w (.cells #[.slice A n c] 24)
  have HL := hide hl; have HF := hide hF; have HM := hide hm; have HI := hide hI
  clear hl hF hI hm
  go_enter Tryz.func18, Tryz.ntmps18
  go_wp2
  go_loopw [3, 4] (fun vv iv wr => ∃ k : Nat, k ≤ n ∧ iv = .int .i64 (k : Int) ∧ Below w.heap.size w wr ∧ wr.heap[w.heap.size]? = some (.cells #[.slice A n c] 24 (0, 0)) ∧ OwnS wr (w.heap.size + 1) vv (Dg.fieldsC (l.take k))) (fun _ iv _ => n - (intOf iv).toNat)
  case atStart => exact ⟨0, by omega, rfl, hx1, hrow, OwnS.nil _ _⟩
  case round =>
    obtain ⟨k, hk, rfl, hb, hr, hO⟩ := hrel
    clear hrow hx1
    have hc := iCells0 hr
    by_cases hlt : k < n
    · have hkn : (k : Int) < (n : Int) := by omega
      have hk0 : (0 : Int) ≤ (k : Int) := by omega
      have hkl : k < l.length := by rw [HL.out]; exact hlt
      have hIr := HI.out.below hb
      obtain ⟨b, off, rfl⟩ := hIr.some hkl
      obtain ⟨x, hx⟩ : ∃ x, l[k] = x := ⟨_, rfl⟩
      obtain ⟨hbl, p0, p1, p2, p3, p4, p5, p6⟩ := hIr.cells hkl x hx
      have HX := hide hx
      have HN := hide (show (Dg.fieldsC (l.take k)).length = k * 6 by rw [fields_len, List.length_take]; omega)
      clear hx hIr
      have hx2 := Below.news (Below.refl wr.heap.size wr) (.cells #[.int .i64 x.kind, .string x.id, .string x.parent, .string x.number, .string x.north, .string x.south, .bool x.gone] 31)
      have hrx := heap_alloc_new wr (.cells #[.int .i64 x.kind, .string x.id, .string x.parent, .string x.number, .string x.north, .string x.south, .bool x.gone] 31)
      have hr1 := iNext hr hx2
      have hO1 := OwnS.below hO hx2
      have HBA := hide (bnext hb hx2)
      have HB1 := hide (show w.heap.size + 1 ≤ (wr.alloc (.cells #[.int .i64 x.kind, .string x.id, .string x.parent, .string x.number, .string x.north, .string x.south, .bool x.gone] 31)).heap.size by have := lt_of_block hr1; omega)
      go_upto_region 6 with (fail)
      generalize wr.alloc (.cells #[.int .i64 x.kind, .string x.id, .string x.parent, .string x.number, .string x.north, .string x.south, .bool x.gone] 31) = w1 at *
      obtain ⟨c0, c1, c2, c3, c4, c5, c6⟩ := iCells hrx
      clear p0 p1 p2 p3 p4 p5 p6 hc hr hx2 hrx hO hb
      by_cases kz : x.kind = 1
      · have HKW := hide (show Dg.kindW x = Dg.sD by unfold Dg.kindW; rw [if_pos kz])
        have kb : (x.kind == 1) = true := beq_iff_eq.2 kz
        clear kz
        cases gz : x.gone
        all_goals (rw [gz] at c6)
        · clear gz
          have LITX := hide (Below.news (Below.refl w1.heap.size w1) (.cells #[.string Dg.sD, .string x.id, .string x.parent, .string x.number, .string x.north, .string x.south] 9))
          have Strs6 : Hid (∀ (j : Nat) s, [Dg.sD, x.id, x.parent, x.number, x.north, x.south][j]? = some s → (w1.alloc (.cells #[.string Dg.sD, .string x.id, .string x.parent, .string x.number, .string x.north, .string x.south] 9)).cell? ((⟨w1.heap.size, 0, none⟩ : Addr).add j) = some (.string s)) := fun j s hj => by
            rw [addr_off, cell_of_row _ _ _ _ _ (0, 0) (heap_alloc_new w1 _), Nat.zero_add, ← Array.getElem?_toList]
            have h9 : ([Dg.sD, x.id, x.parent, x.number, x.north, x.south].map Value.string)[j]? = some (.string s) := by rw [List.getElem?_map, hj]; rfl
            exact h9
          go_wp2_with (at_builtin; refine step_ag rfl (.tmp 24) (.tmp 36) rfl (w.heap.size + 1) _ (Dg.fieldsC (l.take k)) [Dg.sD, x.id, x.parent, x.number, x.north, x.south] rfl (OwnS.below hO1 LITX.out) ⟨w1.heap.size, 0, none⟩ 6 6 rfl rfl (Strs6.out) (by rw [HN.out]; omega) (Nat.le_trans HB1.out LITX.out.size) ?_; intro v8 u8 hO8 hg8 hat8)
          have hb8 := grown_up (bnext HBA.out LITX.out) hg8 (fun g hg => by have := (OwnV.lt hO1 hg).1; omega)
          have hr8 := grown_row hg8 (iNext hr1 LITX.out) (fun g hg => by have := (OwnV.lt hO1 hg).1; omega)
          go_roundw
          case rel => exact ⟨k + 1, by omega, by go_num, hb8, hr8, by rw [fields_snoc hkl, HX.out, HKW.out]; exact hO8⟩
          case measure => simp [intOf]; omega
        · clear gz
          have LITX := hide (Below.news (Below.refl w1.heap.size w1) (.cells #[.string Dg.sD, .string x.id, .string x.parent, .string x.number, .string x.north, .string x.south] 9))
          have Strs6 : Hid (∀ (j : Nat) s, [Dg.sD, x.id, x.parent, x.number, x.north, x.south][j]? = some s → (w1.alloc (.cells #[.string Dg.sD, .string x.id, .string x.parent, .string x.number, .string x.north, .string x.south] 9)).cell? ((⟨w1.heap.size, 0, none⟩ : Addr).add j) = some (.string s)) := fun j s hj => by
            rw [addr_off, cell_of_row _ _ _ _ _ (0, 0) (heap_alloc_new w1 _), Nat.zero_add, ← Array.getElem?_toList]
            have h9 : ([Dg.sD, x.id, x.parent, x.number, x.north, x.south].map Value.string)[j]? = some (.string s) := by rw [List.getElem?_map, hj]; rfl
            exact h9
          go_wp2_with (at_builtin; refine step_ag rfl (.tmp 24) (.tmp 36) rfl (w.heap.size + 1) _ (Dg.fieldsC (l.take k)) [Dg.sD, x.id, x.parent, x.number, x.north, x.south] rfl (OwnS.below hO1 LITX.out) ⟨w1.heap.size, 0, none⟩ 6 6 rfl rfl (Strs6.out) (by rw [HN.out]; omega) (Nat.le_trans HB1.out LITX.out.size) ?_; intro v8 u8 hO8 hg8 hat8)
          have hb8 := grown_up (bnext HBA.out LITX.out) hg8 (fun g hg => by have := (OwnV.lt hO1 hg).1; omega)
          have hr8 := grown_row hg8 (iNext hr1 LITX.out) (fun g hg => by have := (OwnV.lt hO1 hg).1; omega)
          go_roundw
          case rel => exact ⟨k + 1, by omega, by go_num, hb8, hr8, by rw [fields_snoc hkl, HX.out, HKW.out]; exact hO8⟩
          case measure => simp [intOf]; omega
      · have kb : (x.kind == 1) = false := beq_eq_false_iff_ne.2 kz
        cases gz : x.gone
        all_goals (rw [gz] at c6)
        · have HKW := hide (show Dg.kindW x = Dg.sA by unfold Dg.kindW; rw [if_neg kz, gz]; rfl)
          clear gz kz
          have LITX := hide (Below.news (Below.refl w1.heap.size w1) (.cells #[.string Dg.sA, .string x.id, .string x.parent, .string x.number, .string x.north, .string x.south] 9))
          have Strs6 : Hid (∀ (j : Nat) s, [Dg.sA, x.id, x.parent, x.number, x.north, x.south][j]? = some s → (w1.alloc (.cells #[.string Dg.sA, .string x.id, .string x.parent, .string x.number, .string x.north, .string x.south] 9)).cell? ((⟨w1.heap.size, 0, none⟩ : Addr).add j) = some (.string s)) := fun j s hj => by
            rw [addr_off, cell_of_row _ _ _ _ _ (0, 0) (heap_alloc_new w1 _), Nat.zero_add, ← Array.getElem?_toList]
            have h9 : ([Dg.sA, x.id, x.parent, x.number, x.north, x.south].map Value.string)[j]? = some (.string s) := by rw [List.getElem?_map, hj]; rfl
            exact h9
          go_wp2_with (at_builtin; refine step_ag rfl (.tmp 24) (.tmp 36) rfl (w.heap.size + 1) _ (Dg.fieldsC (l.take k)) [Dg.sA, x.id, x.parent, x.number, x.north, x.south] rfl (OwnS.below hO1 LITX.out) ⟨w1.heap.size, 0, none⟩ 6 6 rfl rfl (Strs6.out) (by rw [HN.out]; omega) (Nat.le_trans HB1.out LITX.out.size) ?_; intro v8 u8 hO8 hg8 hat8)
          have hb8 := grown_up (bnext HBA.out LITX.out) hg8 (fun g hg => by have := (OwnV.lt hO1 hg).1; omega)
          have hr8 := grown_row hg8 (iNext hr1 LITX.out) (fun g hg => by have := (OwnV.lt hO1 hg).1; omega)
          go_roundw
          case rel => exact ⟨k + 1, by omega, by go_num, hb8, hr8, by rw [fields_snoc hkl, HX.out, HKW.out]; exact hO8⟩
          case measure => simp [intOf]; omega
        · have HKW := hide (show Dg.kindW x = Dg.sG by unfold Dg.kindW; rw [if_neg kz, gz]; rfl)
          clear gz kz
          have LITX := hide (Below.news (Below.refl w1.heap.size w1) (.cells #[.string Dg.sG, .string x.id, .string x.parent, .string x.number, .string x.north, .string x.south] 9))
          have Strs6 : Hid (∀ (j : Nat) s, [Dg.sG, x.id, x.parent, x.number, x.north, x.south][j]? = some s → (w1.alloc (.cells #[.string Dg.sG, .string x.id, .string x.parent, .string x.number, .string x.north, .string x.south] 9)).cell? ((⟨w1.heap.size, 0, none⟩ : Addr).add j) = some (.string s)) := fun j s hj => by
            rw [addr_off, cell_of_row _ _ _ _ _ (0, 0) (heap_alloc_new w1 _), Nat.zero_add, ← Array.getElem?_toList]
            have h9 : ([Dg.sG, x.id, x.parent, x.number, x.north, x.south].map Value.string)[j]? = some (.string s) := by rw [List.getElem?_map, hj]; rfl
            exact h9
          go_wp2_with (at_builtin; refine step_ag rfl (.tmp 24) (.tmp 36) rfl (w.heap.size + 1) _ (Dg.fieldsC (l.take k)) [Dg.sG, x.id, x.parent, x.number, x.north, x.south] rfl (OwnS.below hO1 LITX.out) ⟨w1.heap.size, 0, none⟩ 6 6 rfl rfl (Strs6.out) (by rw [HN.out]; omega) (Nat.le_trans HB1.out LITX.out.size) ?_; intro v8 u8 hO8 hg8 hat8)
          have hb8 := grown_up (bnext HBA.out LITX.out) hg8 (fun g hg => by have := (OwnV.lt hO1 hg).1; omega)
          have hr8 := grown_row hg8 (iNext hr1 LITX.out) (fun g hg => by have := (OwnV.lt hO1 hg).1; omega)
          go_roundw
          case rel => exact ⟨k + 1, by omega, by go_num, hb8, hr8, by rw [fields_snoc hkl, HX.out, HKW.out]; exact hO8⟩
          case measure => simp [intOf]; omega
    · obtain rfl : k = n := by omega
      have HE := hide (show l.take k = l by rw [← HL.out, List.take_length])
      rw [HE.out, HF.out] at hO
      obtain ⟨A', c', rfl, _, hS⟩ := hO.strs
      rw [HM.out]
      go_wp2
      go_ret
      exact ⟨⟨A', c', rfl, hS⟩, hb⟩
end Go.Proofs.YtpldhempbdionaaGreatDoor
/- The laws' sample of a code. No conditions but those that each theorem states. -/
namespace Go.Proofs.YtpldhempbdionaaGreatDoor
open Go Go.RowKit Go.Sort Go.Maps
def smp : List Dg.It := [⟨1, ⟨#[100, 49]⟩, ⟨#[]⟩, ⟨#[49]⟩, ⟨#[]⟩, ⟨#[]⟩, false⟩, ⟨2, ⟨#[112, 49]⟩, ⟨#[100, 49]⟩, ⟨#[50]⟩, ⟨#[120]⟩, ⟨#[121]⟩, false⟩, ⟨1, ⟨#[100, 50]⟩, ⟨#[100, 49]⟩, ⟨#[]⟩, ⟨#[]⟩, ⟨#[]⟩, false⟩, ⟨2, ⟨#[112, 50]⟩, ⟨#[100, 50]⟩, ⟨#[]⟩, ⟨#[]⟩, ⟨#[]⟩, true⟩, ⟨2, ⟨#[112, 51]⟩, ⟨#[100, 49]⟩, ⟨#[]⟩, ⟨#[]⟩, ⟨#[]⟩, false⟩, ⟨2, ⟨#[112, 52]⟩, ⟨#[]⟩, ⟨#[]⟩, ⟨#[]⟩, ⟨#[]⟩, false⟩]
def smpX : Dg.It := ⟨2, ⟨#[112, 53]⟩, ⟨#[100, 49]⟩, ⟨#[]⟩, ⟨#[]⟩, ⟨#[]⟩, false⟩
def smpT : ByteArray := ⟨([100, 105, 118, 105, 115, 105, 111, 110, 32, 100, 49, 32, 45, 32, 49, 10, 97, 114, 116, 105, 99, 108, 101, 32, 112, 49, 32, 100, 49, 32, 50, 32, 34, 120, 34, 32, 34, 121, 34, 10, 100, 105, 118, 105, 115, 105, 111, 110, 32, 100, 50, 32, 100, 49, 32, 45, 10, 114, 101, 112, 101, 97, 108, 101, 100, 32, 112, 50, 32, 100, 50, 32, 45, 32, 34, 34, 32, 34, 34, 10, 97, 114, 116, 105, 99, 108, 101, 32, 112, 51, 32, 100, 49, 32, 45, 32, 34, 34, 32, 34, 34, 10, 97, 114, 116, 105, 99, 108, 101, 32, 112, 52, 32, 45, 32, 45, 32, 34, 34, 32, 34, 34, 10] : List UInt8).toArray⟩
theorem smp_valid : Dg.validC smp = true := by decide +kernel
theorem smp_bad : Dg.validC (smp ++ [smpX]) = false := by decide +kernel
theorem smp_text : Dg.textC smp = (smpT, 0) := by decide +kernel
theorem smp_below : belowC smp ⟨#[100, 49]⟩ = [⟨#[112, 49]⟩, ⟨#[100, 50]⟩, ⟨#[112, 50]⟩, ⟨#[112, 51]⟩] := by decide +kernel
theorem smp_leaves : (Dg.leavesC smp).length = 5 := by decide +kernel
theorem smp_leaf : (Dg.leavesC smp)[1]? = some ⟨#[49, 58, 97, 50, 58, 112, 49, 50, 58, 100, 49, 49, 58, 120, 49, 58, 121]⟩ := by decide +kernel
theorem smp_under : underC smp ⟨#[112, 50]⟩ ⟨#[100, 49]⟩ = true := by decide +kernel
theorem smp_not : underC smp ⟨#[112, 52]⟩ ⟨#[100, 49]⟩ = false := by decide +kernel
theorem smp_find : findX smp ⟨#[112, 51]⟩ = 4 := by decide +kernel
theorem smp_digest : Dg.isB (Dg.digestC smp) = true := by decide +kernel
theorem smp_dsize : (Dg.digestC smp).size ≤ 1000 := by decide +kernel
theorem smp_w : ∀ x ∈ smp ++ [smpX], ItW x := by
  have h : ∀ x ∈ smp ++ [smpX], (0 ≤ x.kind ∧ x.kind ≤ 2) ∧ x.id.size ≤ 2 ∧ x.parent.size ≤ 2 ∧ x.number.size ≤ 2 ∧ x.north.size ≤ 2 ∧ x.south.size ≤ 2 := by decide +kernel
  intro x hx
  obtain ⟨⟨h0, h1⟩, h2, h3, h4, h5, h6⟩ := h x hx
  exact ⟨by omega, by omega, by omega, by omega, by omega, by omega, by omega⟩
theorem smp_fields : ∀ x ∈ smp, ∀ s ∈ Dg.fieldsI x, s.size ≤ 100 := by decide +kernel
set_option maxRecDepth 100000 in
set_option maxHeartbeats 8000000 in
theorem sample_of (w : World) :
    Calls Tryz.prog 33 #[] w fun e w' => ∃ b, e = .returned (.agg #[.slice (some ⟨b, 0, none⟩) 6 6]) ∧ Its w' w'.heap.size (some ⟨b, 0, none⟩) smp ∧ Below w.heap.size w w' := by
  go_enter Tryz.func33, Tryz.ntmps33
  go_wp2
  have hs1 : (w.alloc (.cells #[.slice (some ⟨w.heap.size + 1, 0, none⟩) 6 6] 24)).heap.size = w.heap.size + 1 := by simp
  have hx1 := Below.news (Below.refl w.heap.size w) (.cells #[.slice (some ⟨w.heap.size + 1, 0, none⟩) 6 6] 24)
  have hr1 := heap_alloc_new w (.cells #[.slice (some ⟨w.heap.size + 1, 0, none⟩) 6 6] 24)
  generalize w.alloc (.cells #[.slice (some ⟨w.heap.size + 1, 0, none⟩) 6 6] 24) = W1 at *
  have hO := OwnI.lit W1 W1.heap.size (Nat.le_refl _) smp 6 rfl (by decide) #[.int .i64 1, .string ⟨#[100, 49]⟩, .string ⟨#[]⟩, .string ⟨#[49]⟩, .string ⟨#[]⟩, .string ⟨#[]⟩, .bool false, .int .i64 2, .string ⟨#[112, 49]⟩, .string ⟨#[100, 49]⟩, .string ⟨#[50]⟩, .string ⟨#[120]⟩, .string ⟨#[121]⟩, .bool false, .int .i64 1, .string ⟨#[100, 50]⟩, .string ⟨#[100, 49]⟩, .string ⟨#[]⟩, .string ⟨#[]⟩, .string ⟨#[]⟩, .bool false, .int .i64 2, .string ⟨#[112, 50]⟩, .string ⟨#[100, 50]⟩, .string ⟨#[]⟩, .string ⟨#[]⟩, .string ⟨#[]⟩, .bool true, .int .i64 2, .string ⟨#[112, 51]⟩, .string ⟨#[100, 49]⟩, .string ⟨#[]⟩, .string ⟨#[]⟩, .string ⟨#[]⟩, .bool false, .int .i64 2, .string ⟨#[112, 52]⟩, .string ⟨#[]⟩, .string ⟨#[]⟩, .string ⟨#[]⟩, .string ⟨#[]⟩, .bool false] rfl
  have hx2 := Below.news (Below.refl W1.heap.size W1) (.cells #[.int .i64 1, .string ⟨#[100, 49]⟩, .string ⟨#[]⟩, .string ⟨#[49]⟩, .string ⟨#[]⟩, .string ⟨#[]⟩, .bool false, .int .i64 2, .string ⟨#[112, 49]⟩, .string ⟨#[100, 49]⟩, .string ⟨#[50]⟩, .string ⟨#[120]⟩, .string ⟨#[121]⟩, .bool false, .int .i64 1, .string ⟨#[100, 50]⟩, .string ⟨#[100, 49]⟩, .string ⟨#[]⟩, .string ⟨#[]⟩, .string ⟨#[]⟩, .bool false, .int .i64 2, .string ⟨#[112, 50]⟩, .string ⟨#[100, 50]⟩, .string ⟨#[]⟩, .string ⟨#[]⟩, .string ⟨#[]⟩, .bool true, .int .i64 2, .string ⟨#[112, 51]⟩, .string ⟨#[100, 49]⟩, .string ⟨#[]⟩, .string ⟨#[]⟩, .string ⟨#[]⟩, .bool false, .int .i64 2, .string ⟨#[112, 52]⟩, .string ⟨#[]⟩, .string ⟨#[]⟩, .string ⟨#[]⟩, .string ⟨#[]⟩, .bool false] 31)
  have hrw := iNext hr1 hx2
  have hb := bnext hx1 hx2
  obtain ⟨A, c, e, _, hI⟩ := hO.its
  rw [hs1] at e
  cases e
  generalize W1.alloc (.cells #[.int .i64 1, .string ⟨#[100, 49]⟩, .string ⟨#[]⟩, .string ⟨#[49]⟩, .string ⟨#[]⟩, .string ⟨#[]⟩, .bool false, .int .i64 2, .string ⟨#[112, 49]⟩, .string ⟨#[100, 49]⟩, .string ⟨#[50]⟩, .string ⟨#[120]⟩, .string ⟨#[121]⟩, .bool false, .int .i64 1, .string ⟨#[100, 50]⟩, .string ⟨#[100, 49]⟩, .string ⟨#[]⟩, .string ⟨#[]⟩, .string ⟨#[]⟩, .bool false, .int .i64 2, .string ⟨#[112, 50]⟩, .string ⟨#[100, 50]⟩, .string ⟨#[]⟩, .string ⟨#[]⟩, .string ⟨#[]⟩, .bool true, .int .i64 2, .string ⟨#[112, 51]⟩, .string ⟨#[100, 49]⟩, .string ⟨#[]⟩, .string ⟨#[]⟩, .string ⟨#[]⟩, .bool false, .int .i64 2, .string ⟨#[112, 52]⟩, .string ⟨#[]⟩, .string ⟨#[]⟩, .string ⟨#[]⟩, .string ⟨#[]⟩, .bool false] 31) = W2 at *
  clear hO hx2 hx1 hr1
  refine bodyPost_ret (results_cell_row (P := Tryz.prog) Tryz.results33 _ _ w.heap.size 24 #[.slice (some ⟨w.heap.size + 1, 0, none⟩) 6 6] (0, 0) _ rfl hrw Tryz.underlying24 rfl (by kernel_rfl)) rfl ⟨_, rfl, hI, hb⟩
end Go.Proofs.YtpldhempbdionaaGreatDoor
/- head of pandectlaw18. No conditions but those that each theorem states. -/
namespace Go.Proofs.YtpldhempbdionaaGreatDoor
open Go Go.RowKit Go.Sort Go.Maps
theorem smp_w1 : ∀ x ∈ smp, ItW x := fun x hx => smp_w x (List.mem_append_left _ hx)
theorem smp_z : ∀ x ∈ smp, ∀ s ∈ Dg.fieldsI x, s.size ≤ 10000 := fun x hx s hs => Nat.le_trans (smp_fields x hx s hs) (by decide)
theorem smp_z2 : ∀ x ∈ smp, ∀ s ∈ Dg.fieldsI x, s.size ≤ 1073741824 := fun x hx s hs => Nat.le_trans (smp_fields x hx s hs) (by decide)
theorem Strs.keep2 {w w' : World} {A : Option Addr} {l : List ByteArray} (h : Strs w w.heap.size A l) (hb : Below w.heap.size w w') : Strs w' w'.heap.size A l := keepS h hb
set_option maxRecDepth 100000 in
set_option maxHeartbeats 16000000 in
theorem head_any (w : World) (he : Env w) :
    Calls Tryz.prog 9 #[] w fun e w' => e = .returned (.bool true) ∧ Below w.heap.size w w' := by
  go_enter Tryz.func9, Tryz.ntmps9
  go_wp2_with fail
  refine (sample_of w).mono ?_
  rintro e w1 ⟨b, rfl, hI1, hb1⟩
  have hn2 := Below.news (Below.refl w1.heap.size w1) (.cells #[.slice (some ⟨b, 0, none⟩) 6 6] 24)
  have hc1 := iCells0 (heap_alloc_new w1 (.cells #[.slice (some ⟨b, 0, none⟩) 6 6] 24))
  have hr1 := heap_alloc_new w1 (.cells #[.slice (some ⟨b, 0, none⟩) 6 6] 24)
  go_wp2_with fail
  have hI2 := hI1.keep hn2
  have hb2 := bnext hb1 hn2
  generalize w1.alloc (.cells #[.slice (some ⟨b, 0, none⟩) 6 6] 24) = w2 at *
  generalize w1.heap.size = b1 at *
  clear hI1 hn2 hb1 w1
  have hT := smp_text
  unfold smpT at hT
  refine (Code.text_of smp (some ⟨b, 0, none⟩) 6 6 rfl smp_w1 (by decide) w2 hI2 smp_z _ 0 hT).mono ?_
  rintro e w3 ⟨rfl, hb3⟩
  clear hT hc1
  have hI3 := hI2.keep hb3
  have hr3 := iNext hr1 hb3
  have hb03 := bnext hb2 hb3
  clear hI2 hr1 hb2 hb3
  go_upto_region 4 with (fail)
  have hn4 := Below.news (Below.refl w3.heap.size w3) (.cells #[] 31)
  have hO4 := OwnI.lit w3 w3.heap.size (Nat.le_refl _) [] 0 rfl (by decide) #[] rfl
  have hc1 := iCells0 (iNext hr3 hn4)
  have HI4 := hide (hI3.keep hn4).src
  have HO4 := hide hO4
  have HN4 := hide hn4
  clear hO4 hn4
  go_upto_region 5 with (first | (at_builtin; refine step_ai rfl (.tmp 14) (.tmp 16) rfl w3.heap.size _ [] smp rfl HO4.out (some ⟨b, 0, none⟩) 6 6 rfl rfl HI4.out (by decide) HN4.out.size ?_; intro v4 u4 hO5 hB5 hg5; obtain ⟨A5, c5, e5, _, _⟩ := hO5.its; subst e5; have HO5 := hide hO5; have HB5 := hide hB5; clear hO5 hB5 hg5) | (at_builtin; refine step_ai rfl (.tmp 17) (.tmp 19) rfl w3.heap.size _ ([] ++ smp) [smpX] rfl (HO5.out.below (Below.news (Below.refl u4.heap.size u4) (.cells #[.int .i64 2, .string ⟨#[112, 53]⟩, .string ⟨#[100, 49]⟩, .string ⟨#[]⟩, .string ⟨#[]⟩, .string ⟨#[]⟩, .bool false] 31))) (some ⟨u4.heap.size, 0, none⟩) 1 1 rfl rfl (by obtain ⟨A9, c9, e9, _, h9⟩ := (OwnI.lit u4 u4.heap.size (Nat.le_refl _) [smpX] 1 rfl (by decide) #[.int .i64 2, .string ⟨#[112, 53]⟩, .string ⟨#[100, 49]⟩, .string ⟨#[]⟩, .string ⟨#[]⟩, .string ⟨#[]⟩, .bool false] rfl).its; cases e9; exact h9.src) (by decide) (Nat.le_trans (Nat.le_trans HN4.out.size HB5.out.size) (Below.news (Below.refl u4.heap.size u4) (.cells #[.int .i64 2, .string ⟨#[112, 53]⟩, .string ⟨#[100, 49]⟩, .string ⟨#[]⟩, .string ⟨#[]⟩, .string ⟨#[]⟩, .bool false] 31)).size) ?_; intro v5 u5 hO6 hB6 hg6; obtain ⟨A6, c6, e6, _, hI6⟩ := hO6.its; subst e6; clear hg6))
  have hB7 : Below w3.heap.size w3 u5 := ((HN4.out.trans HB5.out).trans ((Below.news (Below.refl u4.heap.size u4) (.cells #[.int .i64 2, .string ⟨#[112, 53]⟩, .string ⟨#[100, 49]⟩, .string ⟨#[]⟩, .string ⟨#[]⟩, .string ⟨#[]⟩, .bool false] 31)).mono (Nat.le_trans HN4.out.size HB5.out.size))).trans hB6
  have hr5 := iNext hr3 hB7
  have hI5 := hI3.keep hB7
  have hb05 := bnext hb03 hB7
  clear hc1 HI4 HO4 HN4 HO5 HB5 hB6 hO6 hB7 hb03 hI3 hr3
  have hn8 := Below.news (Below.refl u5.heap.size u5) (.cells #[.slice A6 (smp.length + 1) c6] 24)
  have hrB := heap_alloc_new u5 (.cells #[.slice A6 (smp.length + 1) c6] 24)
  have hrA := iNext hr5 hn8
  have hIA := hI5.keep hn8
  have hIB : Its (u5.alloc (.cells #[.slice A6 (smp.length + 1) c6] 24)) (u5.alloc (.cells #[.slice A6 (smp.length + 1) c6] 24)).heap.size A6 (smp ++ [smpX]) := hI6.keep hn8
  have hb08 := bnext hb05 hn8
  clear hr5 hI5 hI6 hb05 hn8
  generalize u5.alloc (.cells #[.slice A6 (smp.length + 1) c6] 24) = u6 at *
  generalize u5.heap.size = b5 at *
  have hmx : Tryz.prog.follows .mixedOrders = true := by kernel_rfl
  refine wp_region_noPanic ?_
  refine wp_region_L (fun X_ : World => X_.heap[b1]? = some (.cells #[.slice (some ⟨b, 0, none⟩) 6 6] 24 (0, 0))) 6 hmx ?_
  have hdr := (Below.refl u6.heap.size u6).drew
  have hHeld : (fun X_ : World => X_.heap[b1]? = some (.cells #[.slice (some ⟨b, 0, none⟩) 6 6] 24 (0, 0))) u6.drew := iNext hrA hdr
  have hrB1 := iNext hrB hdr
  have hIA1 := hIA.keep hdr
  have hIB1 := hIB.keep hdr
  have hb09 := bnext hb08 hdr
  clear hrA hrB hIA hIB hb08 hdr
  generalize u6.drew = u7 at *
  refine wpAnyL_take (i := 0) (f0 := 12) (v := ?_) rfl (by decide +kernel) (by decide +kernel) (by decide +kernel) (by decide +kernel) (by decide +kernel) (fun _ _ _ h => h) (Or.inl ⟨by rfl, ?_⟩) hHeld ?_
  rotate_left
  · intro wS hS; have c9 := iCells0 hS; go_simp; (try with_reducible rfl)
  simp only [Act.put, List.getElem_toArray, List.getElem_cons_succ, List.getElem_cons_zero, List.setIfInBounds_toArray, List.set_cons_succ, List.set_cons_zero]
  refine wpAnyL_take (i := 2) (f0 := 12) (v := ?_) rfl (by decide +kernel) (by decide +kernel) (by decide +kernel) (by decide +kernel) (by decide +kernel) (fun _ _ _ h => h) (Or.inl ⟨by rfl, ?_⟩) hHeld ?_
  rotate_left
  · intro wS hS; have c9 := iCells0 hS; go_simp; (try with_reducible rfl)
  simp only [Act.put, List.getElem_toArray, List.getElem_cons_succ, List.getElem_cons_zero, List.setIfInBounds_toArray, List.set_cons_succ, List.set_cons_zero]
  refine wpAnyL_one (i := 1) (by decide +kernel) (by rfl) (fun K hK => ?_)
  rw [if_pos (by rfl)]
  go_simp
  refine (Code.below_of smp (some ⟨b, 0, none⟩) 6 6 rfl smp_w1 (by decide) ⟨#[100, 49]⟩ u7 hIA1 _ smp_below).mono ?_
  rintro e u8 ⟨⟨A7, c7, rfl, hc7, hS7⟩, hb8⟩
  have hHeld8 : (fun X_ : World => X_.heap[b1]? = some (.cells #[.slice (some ⟨b, 0, none⟩) 6 6] 24 (0, 0))) u8 := iNext hHeld hb8
  refine hK.out _ _ (Or.inr hHeld8) ?_
  clear hK K hHeld
  have hrB2 := iNext hrB1 hb8
  have hIA2 := hIA1.keep hb8
  have hIB2 := hIB1.keep hb8
  have hb10 := bnext hb09 hb8
  have he8 := he.next hb10
  clear hrB1 hIA1 hIB1 hb09 hb8
  try simp only [Act.put, List.getElem_toArray, List.getElem_cons_succ, List.getElem_cons_zero, List.setIfInBounds_toArray, List.set_cons_succ, List.set_cons_zero]
  refine wpAnyL_one (i := 3) (by decide +kernel) (by rfl) (fun K hK => ?_)
  rw [if_pos (by rfl)]
  go_simp
  obtain ⟨LV, hLV⟩ : ∃ L, Dg.leavesC smp = L := ⟨_, rfl⟩
  have hL1 := smp_leaves
  have hL2 := smp_leaf
  rw [hLV] at hL1 hL2
  refine (Code.leaves_of smp (some ⟨b, 0, none⟩) 6 6 rfl smp_w1 (by decide) u8 he8 hIA2 smp_z2 LV hLV).mono ?_
  rintro e u9 ⟨⟨A8, c8, rfl, hc8, hS8⟩, hb9⟩
  have hHeld9 : (fun X_ : World => X_.heap[b1]? = some (.cells #[.slice (some ⟨b, 0, none⟩) 6 6] 24 (0, 0))) u9 := iNext hHeld8 hb9
  refine hK.out _ _ (Or.inr hHeld9) ?_
  clear hK K hHeld8
  have hrB3 := iNext hrB2 hb9
  have hIA3 := hIA2.keep hb9
  have hIB3 := hIB2.keep hb9
  have hb11 := bnext hb10 hb9
  have hS7' := hS7.keep2 hb9
  clear hrB2 hIA2 hIB2 hb10 hb9 he8 hS7
  try simp only [Act.put, List.getElem_toArray, List.getElem_cons_succ, List.getElem_cons_zero, List.setIfInBounds_toArray, List.set_cons_succ, List.set_cons_zero]
  have HL2 := hide hL2
  have HLV := hide hLV
  clear hL2 hLV
  rw [hL1]
  rw [hL1] at hc8
  refine wpAnyL_one (i := 4) (by decide +kernel) (by rfl) (fun K hK => ?_)
  rw [if_pos (by rfl)]
  go_simp
  refine hK.out _ _ (Or.inr hHeld9) ?_
  clear hK K
  try simp only [Act.put, List.getElem_toArray, List.getElem_cons_succ, List.getElem_cons_zero, List.setIfInBounds_toArray, List.set_cons_succ, List.set_cons_zero]
  refine wpAnyL_one (i := 5) (by decide +kernel) (by rfl) (fun K hK => ?_)
  rw [if_pos (by rfl)]
  go_simp
  refine hK.out _ _ (Or.inr hHeld9) ?_
  clear hK K
  try simp only [Act.put, List.getElem_toArray, List.getElem_cons_succ, List.getElem_cons_zero, List.setIfInBounds_toArray, List.set_cons_succ, List.set_cons_zero]
  refine wpAnyL_done (by decide +kernel) ?_ _
  refine NoPanic.normal ?_
  have hcA := iCells0 hHeld9
  have hcB := iCells0 hrB3
  generalize u9 = u20 at *
  go_wp2_with fail
  have hA20 := hHeld9; have hB20 := hrB3; have hI20 := hIA3; have hJ20 := hIB3; have hS720 := hS7'; have hS820 := hS8; have hb20 := hb11
  clear hHeld9 hrB3 hIA3 hIB3 hS7' hS8 hb11
  refine (Code.valid_of smp (some ⟨b, 0, none⟩) 6 6 rfl smp_w1 (by decide) u20 hI20 true smp_valid).mono ?_
  rintro e u21 ⟨rfl, hx21⟩
  have hA21 := iNext hA20 hx21
  have hB21 := iNext hB20 hx21
  have hI21 := hI20.keep hx21
  have hJ21 := hJ20.keep hx21
  have hS721 := hS720.keep2 hx21
  have hS821 := hS820.keep2 hx21
  have hb21 := bnext hb20 hx21
  clear hx21 hb20 hA20 hB20 hI20 hJ20 hS720 hS820
  clear hcA hcB
  have hcA := iCells0 hA21
  have hcB := iCells0 hB21
  go_wp2_with fail
  refine (Code.valid_of (smp ++ [smpX]) A6 (smp.length + 1) c6 (by simp) smp_w (by decide) u21 hJ21 false smp_bad).mono ?_
  rintro e u22 ⟨rfl, hx22⟩
  have hA22 := iNext hA21 hx22
  have hI22 := hI21.keep hx22
  have hS722 := hS721.keep2 hx22
  have hS822 := hS821.keep2 hx22
  have hb22 := bnext hb21 hx22
  clear hx22 hb21 hA21 hB21 hI21 hJ21 hS721 hS821
  clear hcA hcB
  have hcA := iCells0 hA22
  go_wp2_with fail
  have hnL := Below.news (Below.refl u22.heap.size u22) (.cells #[.string ⟨#[112, 49]⟩, .string ⟨#[100, 50]⟩, .string ⟨#[112, 50]⟩, .string ⟨#[112, 51]⟩] 9)
  have hSl := Strs.new u22 [⟨#[112, 49]⟩, ⟨#[100, 50]⟩, ⟨#[112, 50]⟩, ⟨#[112, 51]⟩] #[.string ⟨#[112, 49]⟩, .string ⟨#[100, 50]⟩, .string ⟨#[112, 50]⟩, .string ⟨#[112, 51]⟩] 9 rfl
  have hAL := iNext hA22 hnL; have hIL := hI22.keep hnL; have h7L := hS722.keep2 hnL; have h8L := hS822.keep2 hnL; have hbL := bnext hb22 hnL
  clear hA22 hI22 hS722 hS822 hb22 hnL
  generalize u22.alloc (.cells #[.string ⟨#[112, 49]⟩, .string ⟨#[100, 50]⟩, .string ⟨#[112, 50]⟩, .string ⟨#[112, 51]⟩] 9) = u23 at *
  have hA23 := hAL; have hI23 := hIL; have hS723 := h7L; have hS823 := h8L; have hb23 := hbL
  clear hAL hIL h7L h8L hbL
  refine (same_of A7 _ c7 4 [⟨#[112, 49]⟩, ⟨#[100, 50]⟩, ⟨#[112, 50]⟩, ⟨#[112, 51]⟩] [⟨#[112, 49]⟩, ⟨#[100, 50]⟩, ⟨#[112, 50]⟩, ⟨#[112, 51]⟩] 4 4 rfl rfl true (by decide +kernel) u23 (by decide) (by decide) hS723 hSl).mono ?_
  rintro e u24 ⟨rfl, hx24⟩
  have hA24 := iNext hA23 hx24
  have hI24 := hI23.keep hx24
  have hS824 := hS823.keep2 hx24
  have hb24 := bnext hb23 hx24
  clear hx24 hb23 hA23 hI23 hS723 hS823
  clear hcA
  have hcA := iCells0 hA24
  go_wp2_with fail
  refine (Code.under_of smp (some ⟨b, 0, none⟩) 6 6 rfl smp_w1 (by decide) ⟨#[112, 50]⟩ ⟨#[100, 49]⟩ u24 hI24 true smp_under).mono ?_
  rintro e u25 ⟨rfl, hx25⟩
  have hA25 := iNext hA24 hx25
  have hI25 := hI24.keep hx25
  have hS825 := hS824.keep2 hx25
  have hb25 := bnext hb24 hx25
  clear hx25 hb24 hA24 hI24 hS824
  clear hcA
  have hcA := iCells0 hA25
  go_wp2_with fail
  refine (Code.under_of smp (some ⟨b, 0, none⟩) 6 6 rfl smp_w1 (by decide) ⟨#[112, 52]⟩ ⟨#[100, 49]⟩ u25 hI25 false smp_not).mono ?_
  rintro e u26 ⟨rfl, hx26⟩
  have hA26 := iNext hA25 hx26
  have hI26 := hI25.keep hx26
  have hS826 := hS825.keep2 hx26
  have hb26 := bnext hb25 hx26
  clear hx26 hb25 hA25 hI25 hS825
  clear hcA
  have hcA := iCells0 hA26
  obtain ⟨b8, off8, rfl, hb8l, hc8f⟩ := hS826.at_ (by rw [hL1]; decide)
  have hc81 := hc8f 1 _ HL2.out
  clear hc8f
  go_wp2_with fail
  clear hc81
  refine (Code.find_of smp (some ⟨b, 0, none⟩) 6 6 rfl (by decide) ⟨#[112, 51]⟩ u26 hI26 4 smp_find).mono ?_
  rintro e u27 ⟨rfl, hx27⟩
  have hA27 := iNext hA26 hx27
  have hI27 := hI26.keep hx27
  have hb27 := bnext hb26 hx27
  clear hx27 hb26 hA26 hI26 hS826
  clear hcA
  have hcA := iCells0 hA27
  go_wp2_with fail
  obtain ⟨DG, hDG⟩ : ∃ D, Dg.digestC smp = D := ⟨_, rfl⟩
  have hD1 := smp_digest
  have hD2 := smp_dsize
  rw [hDG] at hD1 hD2
  refine (Code.digest_of smp (some ⟨b, 0, none⟩) 6 6 rfl smp_w1 (by decide) u27 (he.next hb27) hI27 smp_z DG hDG).mono ?_
  rintro e u28 ⟨rfl, hx28⟩
  have hA28 := iNext hA27 hx28
  have hb28 := bnext hb27 hx28
  clear hx28 hb27 hA27 hI27
  clear hcA
  have hcA := iCells0 hA28
  go_wp2_with fail
  refine (is_of DG true hD1 (by omega) u28).mono ?_
  rintro e u29 ⟨rfl, hx29⟩
  have hb29 := bnext hb28 hx29
  clear hx29 hb28 hA28
  clear hcA
  go_wp2
  go_ret
  exact ⟨rfl, hb29⟩
end Go.Proofs.YtpldhempbdionaaGreatDoor
/- Two codes of a law. No conditions but those that each theorem states. -/
namespace Go.Proofs.YtpldhempbdionaaGreatDoor
open Go Go.RowKit Go.Sort Go.Maps
/-- What a law about two codes holds. -/
structure C2 (g g' : Nat) (A : Option Addr) (n c : Nat) (l : List Dg.It) (A' : Option Addr) (n' c' : Nat) (l' : List Dg.It) (X : World) : Prop where
  r1 : X.heap[g]? = some (.cells #[.slice A n c] 24 (0, 0))
  r2 : X.heap[g']? = some (.cells #[.slice A' n' c'] 24 (0, 0))
  i1 : Its X X.heap.size A l
  i2 : Its X X.heap.size A' l'
  env : Env X
theorem C2.below {g g' : Nat} {A : Option Addr} {n c : Nat} {l : List Dg.It} {A' : Option Addr} {n' c' : Nat} {l' : List Dg.It} {X X' : World} (h : C2 g g' A n c l A' n' c' l' X) (hb : Below X.heap.size X X') : C2 g g' A n c l A' n' c' l' X' :=
  ⟨iNext h.r1 hb, iNext h.r2 hb, h.i1.keep hb, h.i2.keep hb, h.env.next hb⟩
theorem jCells2 {w : World} {g : Nat} {a b : Value} {T : TypeId} (h : w.heap[g]? = some (.cells #[a, b] T (0, 0))) : w.cell? ⟨g, 0, none⟩ = some a ∧ w.cell? ⟨g, 1, none⟩ = some b := by
  refine ⟨?_, ?_⟩ <;> (rw [cell_of_row _ _ _ _ _ (0, 0) h]; rfl)
theorem few2_of (l : List Dg.It) (A : Option Addr) (n c : Nat) (hl : l.length = n) (hn : n ≤ 9223372036854775807) (l' : List Dg.It) (A' : Option Addr) (n' c' : Nat) (hl' : l'.length = n') (hn' : n' ≤ 9223372036854775807) (w : World) (g : Nat) (hg : w.heap.size = g) (hI : Its w w.heap.size A l) (hI' : Its w w.heap.size A' l') (R : Bool) (hR : (fewC l 30 && fewC l' 30) = R) :
    Calls Tryz.prog 10 #[.slice (some ⟨g, 0, none⟩) 2 2] (w.alloc (.cells #[.slice A n c, .slice A' n' c'] 24)) fun e w' => e = .returned (.bool R) ∧ Below w.heap.size w w' := by
  subst hg hl hl'
  have hx := Below.news (Below.refl w.heap.size w) (.cells #[.slice A l.length c, .slice A' l'.length c'] 24)
  have hrow := heap_alloc_new w (.cells #[.slice A l.length c, .slice A' l'.length c'] 24)
  obtain ⟨q0, q1⟩ := jCells2 hrow
  have hJ := hI.keep hx
  have hJ' := hI'.keep hx
  have hlt := lt_of_block hrow
  have hD : Cds (w.alloc (.cells #[.slice A l.length c, .slice A' l'.length c'] 24)) w.heap.size [⟨l, A, c⟩, ⟨l', A', c'⟩] := by
    generalize w.alloc (.cells #[.slice A l.length c, .slice A' l'.length c'] 24) = w1 at *
    generalize w.heap.size = g at *
    refine ⟨hlt, fun j d hj => ?_⟩
    rcases j with _ | _ | j
    · rw [List.getElem?_cons_zero] at hj
      injection hj with hj
      subst hj
      exact ⟨q0, hJ, hn⟩
    · rw [List.getElem?_cons_succ, List.getElem?_cons_zero] at hj
      injection hj with hj
      subst hj
      exact ⟨q1, hJ', hn'⟩
    · rw [List.getElem?_cons_succ, List.getElem?_cons_succ, List.getElem?_nil] at hj
      cases hj
  refine (cfew_of [⟨l, A, c⟩, ⟨l', A', c'⟩] w.heap.size 2 rfl (by decide) _ hD R (by rw [← hR]; show (fewC l 30 && (fewC l' 30 && true)) = _; rw [Bool.and_true])).mono fun e w' h => ⟨h.1, bnext hx h.2⟩
theorem digestC_size (l : List Dg.It) : (Dg.digestC l).size ≤ 16 := by
  unfold Dg.digestC
  split
  · rw [listB_size]; exact Nat.le_refl _
  · decide
theorem fieldsC_size {l : List Dg.It} {z : Nat} (h : ∀ x ∈ l, ∀ s ∈ Dg.fieldsI x, s.size ≤ z) : ∀ s ∈ Dg.fieldsC l, s.size ≤ z := fun s hs => by
  unfold Dg.fieldsC at hs
  obtain ⟨x, hx, hxs⟩ := List.mem_flatMap.1 hs
  exact h x hx s hxs
theorem few_sizes {l : List Dg.It} {m : Nat} (h : fewC l m = true) : l.length ≤ m ∧ ∀ x ∈ l, ∀ s ∈ Dg.fieldsI x, s.size ≤ 500 := by
  obtain ⟨h1, h2⟩ := fewC_spec h
  exact ⟨h1, fun x hx => small_fields (h2 x hx)⟩
theorem few_up {l : List Dg.It} {z y : Nat} (h : ∀ x ∈ l, ∀ s ∈ Dg.fieldsI x, s.size ≤ z) (hzy : z ≤ y) : ∀ x ∈ l, ∀ s ∈ Dg.fieldsI x, s.size ≤ y := fun x hx s hs => Nat.le_trans (h x hx s hs) hzy
theorem str_yes {a b : ByteArray} (h : a = b) : (a.toList == b.toList) = true := (bytes_beq a b).2 h
theorem str_no {a b : ByteArray} (h : a ≠ b) : (a.toList == b.toList) = false := by
  cases e : a.toList == b.toList with
  | false => rfl
  | true => exact absurd ((bytes_beq a b).1 e) h
end Go.Proofs.YtpldhempbdionaaGreatDoor
/- A code of a law. No conditions but those that each theorem states. -/
namespace Go.Proofs.YtpldhempbdionaaGreatDoor
open Go Go.RowKit Go.Sort Go.Maps
/-- What a law about a code holds: the code in its variable, its items, the tables, and a list of strings. -/
structure CS (g : Nat) (A : Option Addr) (n c : Nat) (l : List Dg.It) (A7 : Option Addr) (L : List ByteArray) (X : World) : Prop where
  row : X.heap[g]? = some (.cells #[.slice A n c] 24 (0, 0))
  its : Its X X.heap.size A l
  env : Env X
  lis : Strs X X.heap.size A7 L
theorem CS.below {g : Nat} {A : Option Addr} {n c : Nat} {l : List Dg.It} {A7 : Option Addr} {L : List ByteArray} {X X' : World} (h : CS g A n c l A7 L X) (hb : Below X.heap.size X X') : CS g A n c l A7 L X' :=
  ⟨iNext h.row hb, h.its.keep hb, h.env.next hb, keepS h.lis hb⟩
theorem few1_of (l : List Dg.It) (A : Option Addr) (n c : Nat) (hl : l.length = n) (hn : n ≤ 9223372036854775807) (w : World) (g : Nat) (hg : w.heap.size = g) (hI : Its w w.heap.size A l) (R : Bool) (hR : fewC l 30 = R) :
    Calls Tryz.prog 10 #[.slice (some ⟨g, 0, none⟩) 1 1] (w.alloc (.cells #[.slice A n c] 24)) fun e w' => e = .returned (.bool R) ∧ Below w.heap.size w w' := by
  subst hg hl
  have hx := Below.news (Below.refl w.heap.size w) (.cells #[.slice A l.length c] 24)
  refine (cfew_of [⟨l, A, c⟩] w.heap.size 1 rfl (by decide) _ ⟨by simp, fun j d hj => ?_⟩ R (by rw [← hR]; simp)).mono fun e w' h => ⟨h.1, bnext hx h.2⟩
  cases j with
  | zero => cases hj; exact ⟨iCells0 (heap_alloc_new w _), hI.keep hx, hn⟩
  | succ j => cases hj
end Go.Proofs.YtpldhempbdionaaGreatDoor
/- The last step of each law's row: the result is true, and each argument reads as it did. No conditions. -/
namespace Go.Proofs.YtpldhempbdionaaGreatDoor
open Go Go.RowKit Go.ChangeShapes Go.WideShapes Go.ChangeAt
section
variable {H : Type} {enc : TypeId × Value → H} {P : Program}
theorem trodAll_later (hl : laidOutB P = true) {W W' : World} (hb : Below W.heap.size W W') : ∀ {ts : List TypeId} {vs : List Value} {ds : List (DataW H)} {ps : List MemPlace},
    (∀ t ∈ ts, P.readableRec t = true ∧ t < P.types.size) → (∀ x ∈ ps, x.block < W.heap.size) → DataW.TrodAll enc P W 0 (fun _ => true) true ts vs ds ps → DataW.TrodAll enc P W' 0 (fun b => decide (b < W.heap.size)) true ts vs ds ps
  | [], vs, ds, ps, _, _, h => by
    obtain ⟨rfl, rfl, rfl⟩ := trodAll_nil h
    exact trodAll_mk0
  | t :: ts, vs, ds, ps, hts, hlt, h => by
    obtain ⟨v, vs', d, ds', p, q, rfl, rfl, rfl, hv, hr⟩ := trodAll_cons h
    obtain ⟨h1, h2⟩ := hts t (List.mem_cons_self ..)
    exact trodAll_cons_mk (Below.trod hl h1 h2 hv hb fun x hx => hlt x (List.mem_append_left _ hx))
      (trodAll_later hl hb (fun t' ht' => hts t' (List.mem_cons_of_mem _ ht')) (fun x hx => hlt x (List.mem_append_right _ hx)) hr)
theorem law_post (hl : laidOutB P = true) {f : Func} {s : ChangeSpec} (hv : s.vars = []) {tb : TypeId} (hrt : f.resultTypes = #[tb]) (htb : P.underlying tb = some .bool)
    (hts : (f.params.toList.all fun t => P.readableRec t && decide (t < P.types.size)) = true) {W W' : World} {args : Array Value} {ds gs : List (DataW H)} {before : List MemPlace}
    (hW : DataW.Whole enc P f.params.toList s.vars false W args.toList ds gs before) (hfn : s.fn H (ds ++ gs) = { results := [.lit (.bool true)], args := ds }) (hb : Below W.heap.size W W') :
    s.post enc P f false true false false W args (.bool true) W' := by
  have hlt : ∀ p ∈ before, p.block < W.heap.size := fun p hp => hW.lt p hp
  have hW' := hW
  obtain ⟨p, q, hA, hV, rfl, _, _⟩ := hW
  refine ⟨ds, gs, p ++ q, [], p, [], hW', ?_, ?_, ?_, hb.frame _, fun h => by cases h⟩
  · rw [hfn, hrt]
    exact trodAll_mk1 (shut_bool htb true)
  · rw [hfn]
    exact trodAll_later hl hb (fun t ht => by have := List.all_eq_true.1 hts t ht; simpa using this) (fun x hx => hlt x (List.mem_append_left _ hx)) hA
  · rw [hfn, hv]
    exact rfl
end
end Go.Proofs.YtpldhempbdionaaGreatDoor
/- The arguments of the laws, opened: strings, small numbers, slices of strings. No conditions. -/
namespace Go.Proofs.YtpldhempbdionaaGreatDoor
open Go Go.RowKit Go.ChangeShapes Go.WideShapes Go.ChangeAt Go.WideMaps Go.WideElems
open Go.ChangeMaps (open_string)
theorem laid_mem {P : Program} {w : World} {n : String} {d : DataW Unit} : ∀ {l : List (String × DataW Unit)} {ps : List MemPlace}, (n, d) ∈ l → DataW.LaidVars P w l ps →
    ∃ g t cs fuel p, P.globalNamed n = some g ∧ (P.globals[g]?).map (·.type) = some t ∧ w.var? P n = some cs ∧ DataW.trod (fun _ => ()) P w 0 (fun _ => true) false fuel t cs.toList = some (d, p)
  | [], _, hm, _ => by cases hm
  | x :: r, ps, hm, h => by
    obtain ⟨g, t, cs, fuel, p, q, h1, h2, h3, h4, h5, _⟩ := h
    rcases List.mem_cons.1 hm with hx | hx
    · subst hx
      exact ⟨g, t, cs, fuel, p, h1, h2, h3, h4⟩
    · exact laid_mem hx h5
theorem env_of_laid {W : World} {l : List (String × DataW Unit)} (hp : (l.all fun x => x.2.handleName?.isNone) = true) (hm : ("internal/strconv.uint64pow10", Lib.tabData .u64 Lib.pow10Tab) ∈ l) (h : laidMetH Tryz.prog l W) : Env W := by
  rw [MakeChecks.laidMetH_plain _ _ _ hp] at h
  obtain ⟨ps, hl, _⟩ := h
  obtain ⟨g, t, cs, fuel, p, hg, ht, hvar, hd⟩ := laid_mem hm hl
  obtain rfl := Option.some.inj (gPow.symm.trans hg)
  obtain rfl := Option.some.inj ((show (Tryz.prog.globals[3]?).map (·.type) = some 170 by kernel_rfl).symm.trans ht)
  unfold Env Lib.TabIs
  rw [hvar, ← Lib.cells_of_tab Tryz.underlying170 Tryz.underlying58 (by kernel_rfl) (by kernel_rfl) hd]
section
variable {H : Type} {enc : TypeId × Value → H}
theorem addr_of_cell {w : World} {a : Addr} {v : Value} (h : w.cell? a = some v) : a = ⟨a.block, a.off, none⟩ ∧ a.block < w.heap.size := by
  refine ⟨?_, block_lt_of_cell h⟩
  obtain ⟨b, off, sp⟩ := a
  cases sp with
  | none => rfl
  | some k =>
    exfalso
    unfold World.cell? at h
    simp at h
    split at h <;> simp at h
theorem add_plain (b off j : Nat) : (⟨b, off, none⟩ : Addr).add j = ⟨b, off + j, none⟩ := by
  unfold Addr.add
  by_cases h : j = 0
  · rw [if_pos h, h, Nat.add_zero]
  · rw [if_neg h]
set_option maxRecDepth 100000 in
theorem open_strs {W : World} {v : Value} {d : DataW H} {p : List MemPlace} {base : Nat} (hv : Value.okWide Tryz.prog W .any base 28 v) (h : DataW.Trod enc Tryz.prog W 0 (fun _ => true) true 28 v d p) :
    ∃ (A : Option Addr) (c : Nat) (l : List ByteArray), v = .slice A l.length c ∧ l.length ≤ 9223372036854775807 ∧ (∀ s ∈ l, s.size ≤ 9223372036854775807) ∧ Strs W W.heap.size A l := by
  obtain ⟨a0, len, cap, rfl⟩ := okWide_slice Tryz.underlying28 hv
  obtain ⟨fuel, hf⟩ := h
  rcases open_strings Tryz.underlying28 Tryz.underlying9 (by kernel_rfl) hf with ⟨hcs, _⟩ | ⟨a, len', cap', ss, hcs, _, hl, hm, hz, _, hcell, hws⟩
  · simp [Value.cells] at hcs
    obtain ⟨rfl, rfl, rfl⟩ := hcs
    exact ⟨none, 0, [], rfl, by simp, by simp, Strs.nil _ _ _⟩
  · simp [Value.cells] at hcs
    obtain ⟨rfl, rfl, rfl⟩ := hcs
    simp only [if_true] at hz
    unfold maxLen at hm
    have htl : (ss.take len).length = len := by rw [List.length_take, hz]; omega
    refine ⟨some a, cap, ss.take len, by rw [htl], by rw [htl]; omega, fun s hs => hws s (List.mem_of_mem_take hs), ⟨fun h0 => ?_⟩⟩
    rw [htl] at h0
    have h00 : a.add 0 = a := by unfold Addr.add; rw [if_pos rfl]
    obtain ⟨e, hb⟩ := addr_of_cell (h00 ▸ hcell 0 (by omega))
    refine ⟨a.block, a.off, by rw [← e], hb, fun j s hj => ?_⟩
    have hjl : j < len := by
      have := (List.getElem?_eq_some_iff.1 hj).1
      rw [htl] at this; exact this
    have h1 := hcell j (by omega)
    rw [List.getElem?_take, if_pos hjl] at hj
    rw [List.getD_eq_getElem?_getD, hj] at h1
    have e2 : a.add j = ⟨a.block, a.off + j, none⟩ := by
      conv => lhs; rw [e]
      exact add_plain _ _ _
    rw [← e2]
    exact h1
end
end Go.Proofs.YtpldhempbdionaaGreatDoor
/- A seal that came in, opened. No conditions. -/
namespace Go.Proofs.YtpldhempbdionaaGreatDoor
open Go Go.RowKit Go.ChangeShapes Go.WideShapes Go.ChangeAt Go.WideMaps Go.WideElems Go.Joins
variable {H : Type} {enc : TypeId × Value → H}
theorem cellsStr : Tryz.prog.cellsOf 9 = 1 := by kernel_rfl
set_option maxRecDepth 100000 in
/-- A field that is a slice of strings. -/
theorem field_strs {W : World} {v : Value} {n : Nat} {y : DataW H × List MemPlace} (hf : DataW.trod enc Tryz.prog W 0 (fun _ => true) true n 28 [v] = some y) :
    ∃ (A : Option Addr) (c : Nat) (l : List ByteArray), v = .slice A l.length c ∧ l.length ≤ 9223372036854775807 ∧ (∀ s ∈ l, s.size ≤ 9223372036854775807) ∧ Strs W W.heap.size A l ∧ l.length ≤ c := by
  rcases open_strings Tryz.underlying28 Tryz.underlying9 (by kernel_rfl) hf with ⟨hcs, _⟩ | ⟨a, len', cap', ss, hcs, _, hl, hm, hz, _, hcell, hws⟩
  · simp only [List.cons.injEq, and_true] at hcs
    subst hcs
    exact ⟨none, 0, [], rfl, by simp, by simp, Strs.nil _ _ _, by simp⟩
  · simp only [List.cons.injEq, and_true] at hcs
    subst hcs
    simp only [if_true] at hz
    unfold maxLen at hm
    have htl : (ss.take len').length = len' := by rw [List.length_take, hz]; omega
    refine ⟨some a, cap', ss.take len', by rw [htl], by rw [htl]; omega, fun s hs => hws s (List.mem_of_mem_take hs), ⟨fun h0 => ?_⟩, by rw [htl]; exact hl⟩
    rw [htl] at h0
    have h00 : a.add 0 = a := by unfold Addr.add; rw [if_pos rfl]
    obtain ⟨e, hb⟩ := addr_of_cell (h00 ▸ hcell 0 (by omega))
    refine ⟨a.block, a.off, by rw [← e], hb, fun j s hj => ?_⟩
    have hjl : j < len' := by
      have := (List.getElem?_eq_some_iff.1 hj).1
      rw [htl] at this; exact this
    have h1 := hcell j (by omega)
    rw [List.getElem?_take, if_pos hjl] at hj
    rw [List.getD_eq_getElem?_getD, hj] at h1
    have e2 : a.add j = ⟨a.block, a.off + j, none⟩ := by
      conv => lhs; rw [e]
      exact add_plain _ _ _
    rw [← e2]
    exact h1
end Go.Proofs.YtpldhempbdionaaGreatDoor
/- Codes that came in, opened. No conditions. -/
namespace Go.Proofs.YtpldhempbdionaaGreatDoor
open Go Go.RowKit Go.ChangeShapes Go.WideShapes Go.ChangeAt Go.WideMaps Go.WideElems Go.Joins Go.Deep
variable {H : Type} {enc : TypeId × Value → H}
theorem cIntC : Tryz.prog.cellsOf 3 = 1 := by kernel_rfl
theorem cBoolC : Tryz.prog.cellsOf 4 = 1 := by kernel_rfl
theorem cItem : Tryz.prog.cellsOf 31 = 7 := by kernel_rfl
theorem cItems : Tryz.prog.cellsOf 22 = 1 := by kernel_rfl
theorem cCode : Tryz.prog.cellsOf 24 = 1 := by kernel_rfl
set_option maxRecDepth 100000 in
/-- The cells of an item that came in. -/
theorem trod_item {W : World} {k : Nat} {cs : List Value} {x : DataW H × List MemPlace} (h : DataW.trod enc Tryz.prog W 0 (fun _ => true) true k 31 cs = some x) :
    ∃ v : Dg.It, cs = (itV v).toList ∧ ItW v := by
  obtain ⟨xs, n, _, _, hlen, hxl, hf⟩ := DataW.trod_struct Tryz.underlying31 h
  rw [cItem] at hlen
  match cs, hlen with
  | [c0, c1, c2, c3, c4, c5, c6], _ =>
    match xs, hxl with
    | [y0, y1, y2, y3, y4, y5, y6], _ =>
      have f0 : DataW.trod enc Tryz.prog W 0 (fun _ => true) true n 3 [c0] = some y0 := by simpa [cIntC] using hf 0 _ rfl
      have f1 : DataW.trod enc Tryz.prog W 0 (fun _ => true) true n 9 [c1] = some y1 := by simpa [cellsStr] using hf 1 _ rfl
      have f2 : DataW.trod enc Tryz.prog W 0 (fun _ => true) true n 9 [c2] = some y2 := by simpa [cellsStr] using hf 2 _ rfl
      have f3 : DataW.trod enc Tryz.prog W 0 (fun _ => true) true n 9 [c3] = some y3 := by simpa [cellsStr] using hf 3 _ rfl
      have f4 : DataW.trod enc Tryz.prog W 0 (fun _ => true) true n 9 [c4] = some y4 := by simpa [cellsStr] using hf 4 _ rfl
      have f5 : DataW.trod enc Tryz.prog W 0 (fun _ => true) true n 9 [c5] = some y5 := by simpa [cellsStr] using hf 5 _ rfl
      have f6 : DataW.trod enc Tryz.prog W 0 (fun _ => true) true n 4 [c6] = some y6 := by simpa [cBoolC] using hf 6 _ rfl
      obtain ⟨m, e0, _, w0⟩ := DataW.trod_int Tryz.underlying3 f0
      obtain ⟨b1, e1, _, w1⟩ := DataW.trod_string Tryz.underlying9 f1
      obtain ⟨b2, e2, _, w2⟩ := DataW.trod_string Tryz.underlying9 f2
      obtain ⟨b3, e3, _, w3⟩ := DataW.trod_string Tryz.underlying9 f3
      obtain ⟨b4, e4, _, w4⟩ := DataW.trod_string Tryz.underlying9 f4
      obtain ⟨b5, e5, _, w5⟩ := DataW.trod_string Tryz.underlying9 f5
      obtain ⟨y, e6, _⟩ := DataW.trod_bool Tryz.underlying4 f6
      simp only [List.cons.injEq, and_true] at e0 e1 e2 e3 e4 e5 e6
      subst e0 e1 e2 e3 e4 e5 e6
      obtain ⟨m0, m1⟩ := bounds_i64 w0
      exact ⟨⟨m, b1, b2, b3, b4, b5, y⟩, rfl, ⟨m0, m1, w1, w2, w3, w4, w5⟩⟩
set_option maxRecDepth 100000 in
/-- A slice of items that came in. -/
theorem field_items {W : World} {v : Value} {n : Nat} {y : DataW H × List MemPlace} (hf : DataW.trod enc Tryz.prog W 0 (fun _ => true) true n 22 [v] = some y) :
    ∃ (A : Option Addr) (c : Nat) (l : List Dg.It), v = .slice A l.length c ∧ l.length ≤ 9223372036854775807 ∧ (∀ x ∈ l, ItW x) ∧ Its W W.heap.size A l ∧ l.length ≤ c := by
  rcases open_slice Tryz.underlying22 hf with ⟨hcs, _⟩ | ⟨a, len, cap, m, k, D, Pl, hcs, _, hl, hm, hmm, _, hi⟩
  · simp only [List.cons.injEq, and_true] at hcs
    subst hcs
    exact ⟨none, 0, [], rfl, by simp, by simp, Its.nil _ _ _, by simp⟩
  · simp only [List.cons.injEq, and_true] at hcs
    subst hcs
    simp only [if_true] at hmm
    unfold maxLen at hm
    rw [cItem] at hi
    have h1 : ∀ i, ∃ v : Dg.It, i < len → ItW v ∧ ∀ (j : Nat) (u : Value), (itV v)[j]? = some u → W.cell? ((a.add (i * 7)).add j) = some u := fun i => by
      by_cases hil : i < len
      · obtain ⟨cs', hc, ht⟩ := hi i (by omega)
        obtain ⟨v, hcs, hw⟩ := trod_item ht
        obtain ⟨_, hcl, hat⟩ := World.cells?_some hc
        refine ⟨v, fun _ => ⟨hw, fun j u hj => ?_⟩⟩
        have hj7 : j < 7 := (Array.getElem?_eq_some_iff.1 hj).1
        rw [hat j hj7, hcs, Array.getElem?_toList]
        exact hj
      · exact ⟨⟨0, ⟨#[]⟩, ⟨#[]⟩, ⟨#[]⟩, ⟨#[]⟩, ⟨#[]⟩, false⟩, fun h => absurd h hil⟩
    obtain ⟨f, hfv⟩ := Classical.axiomOfChoice h1
    have hlen : ((List.range len).map f).length = len := by rw [List.length_map, List.length_range]
    refine ⟨some a, cap, (List.range len).map f, by rw [hlen], by rw [hlen]; omega, fun v hv => ?_, ⟨fun h0 => ?_⟩, by rw [hlen]; exact hl⟩
    · obtain ⟨i, hir, rfl⟩ := List.mem_map.1 hv
      exact (hfv i (List.mem_range.1 hir)).1
    · rw [hlen] at h0
      obtain ⟨_, hc0⟩ := hfv 0 h0
      have h00 : (a.add (0 * 7)).add 0 = a := by unfold Addr.add; simp
      obtain ⟨e, hb⟩ := addr_of_cell (h00 ▸ hc0 0 _ rfl)
      refine ⟨a.block, a.off, by rw [← e], hb, fun j v hj i u hu => ?_⟩
      have hjl : j < len := by
        have := (List.getElem?_eq_some_iff.1 hj).1
        rw [hlen] at this; exact this
      rw [List.getElem?_map, List.getElem?_range hjl] at hj
      obtain rfl : f j = v := by simpa using hj
      obtain ⟨_, hc⟩ := hfv j hjl
      have e2 : (a.add (j * 7)).add i = ⟨a.block, a.off + j * 7 + i, none⟩ := by
        rw [e]
        rw [add_plain, add_plain]
      rw [← e2]
      exact hc i u hu
set_option maxRecDepth 100000 in
/-- A code. -/
theorem open_code {W : World} {v : Value} {d : DataW H} {p : List MemPlace} {base : Nat} (hv : Value.okWide Tryz.prog W .any base 24 v) (h : DataW.Trod enc Tryz.prog W 0 (fun _ => true) true 24 v d p) :
    ∃ (A : Option Addr) (c : Nat) (l : List Dg.It), v = .agg #[.slice A l.length c] ∧ l.length ≤ 9223372036854775807 ∧ (∀ x ∈ l, ItW x) ∧ Its W W.heap.size A l ∧ l.length ≤ c := by
  obtain ⟨cs, rfl, hsz⟩ := okWide_struct Tryz.underlying24 hv
  obtain ⟨l⟩ := cs
  match l, hsz.trans cCode with
  | [c0], _ =>
    obtain ⟨fuel, hf0⟩ := h
    obtain ⟨xs, n, _, _, _, hxl, hf⟩ := DataW.trod_struct Tryz.underlying24 hf0
    match xs, hxl with
    | [y0], _ =>
      have f0 : DataW.trod enc Tryz.prog W 0 (fun _ => true) true n 22 [c0] = some y0 := by simpa [Value.cells, cItems] using hf 0 _ rfl
      obtain ⟨A, c, l, rfl, a1, a2, a3, a4⟩ := field_items f0
      exact ⟨A, c, l, rfl, a1, a2, a3, a4⟩
end Go.Proofs.YtpldhempbdionaaGreatDoor

