/- Walks and laws of this seat, several texts in one. No conditions but those that each theorem states. -/
import Derived.Test.YtgmimhgeigbpkaaDA5
import Derived.RangeFuncBox
import Derived.RangeFuncLeaves
import Derived.RangeFuncWrites
import Derived.OwnWalkIn
import Derived.TacticsInMore
import Derived.LoopNIn
import Derived.LoopIn
import Derived.RangeFuncNested
import Derived.Deep.OwnRows
import Derived.Deep.CutBlock
/- Commute of package commute. No conditions but those that each theorem states. -/
namespace Go.Proofs.Ytgmimhgeigbpkaa
open Go Go.RowKit Go.Sort Go.Maps
theorem Dg.commO_1 {a b : Dg.Pt} (h : Dg.formedP a = false) : Dg.commO a b = false := by unfold Dg.commO; rw [if_pos (Or.inl h)]
theorem Dg.commO_2 {a b : Dg.Pt} (h : Dg.formedP b = false) : Dg.commO a b = false := by unfold Dg.commO; rw [if_pos (Or.inr h)]
theorem Dg.commO_go {a b : Dg.Pt} (ha : Dg.formedP a = true) (hb : Dg.formedP b = true) : ¬ (Dg.formedP a = false ∨ Dg.formedP b = false) := fun h => by
 rcases h with h | h
 ·rw [ha] at h; cases h
 ·rw [hb] at h; cases h
theorem Dg.commO_3 {a b : Dg.Pt} (ha : Dg.formedP a = true) (hb : Dg.formedP b = true) (h : sameP a b = true) : Dg.commO a b = true := by
 unfold Dg.commO; rw [if_neg (Dg.commO_go ha hb), if_pos ((sameP_iff a b).1 h)]
theorem ne_same {a b : Dg.Pt} (h : sameP a b = false) : a ≠ b := fun e => by rw [(sameP_iff a b).2 e] at h; cases h
theorem Dg.commO_4 {a b : Dg.Pt} (ha : Dg.formedP a = true) (hb : Dg.formedP b = true) (h : sameP a b = false) (hi : (a.id.toList == b.id.toList) = true) : Dg.commO a b = Dg.ownP a.kind b.kind := by
 unfold Dg.commO; rw [if_neg (Dg.commO_go ha hb), if_neg (ne_same h), if_pos ((Lib.bytes_beq_iff _ _).1 hi)]
theorem ne_bytes {a b : ByteArray} (h : (a.toList == b.toList) = false) : a ≠ b := fun e => by rw [(Lib.bytes_beq_iff _ _).2 e] at h; cases h
/-- What is left where the patches are of different items. -/
def Dg.commR (a b : Dg.Pt) : Bool :=
 if (a.kind ≠ 1 ∧ a.kind ≠ 4) ∨ (b.kind ≠ 1 ∧ b.kind ≠ 4) then true
 else if b.kind = 1 then !(decide (a.parent = b.parent) && decide (a.after = b.after)) && (!(decide (a.parent = b.id) || decide (a.after = b.id)) && !(decide (b.parent = a.id) || decide (b.after = a.id)))
 else if a.kind = 1 then !(decide (a.parent = b.parent) && decide (a.after = b.after)) && (!(decide (b.parent = a.id) || decide (b.after = a.id)) && !decide (a.after = b.id))
 else decide (a.parent = b.parent) && (!(decide (a.parent = b.parent) && decide (a.after = b.after)) && (!decide (a.after = b.id) && !decide (b.after = a.id)))
theorem Dg.commO_5 {a b : Dg.Pt} (ha : Dg.formedP a = true) (hb : Dg.formedP b = true) (h : sameP a b = false) (hi : (a.id.toList == b.id.toList) = false) : Dg.commO a b = Dg.commR a b := by
 unfold Dg.commO; rw [if_neg (Dg.commO_go ha hb), if_neg (ne_same h), if_neg (ne_bytes hi)]; rfl
theorem kinds_no {k : Int} (h : (k == 1 || k == 4) = false) : k ≠ 1 ∧ k ≠ 4 := by
 rw [Bool.or_eq_false_iff, beq_eq_false_iff_ne, beq_eq_false_iff_ne] at h
 exact h
theorem kinds_yes {k : Int} (h : (k == 1 || k == 4) = true) : ¬ (k ≠ 1 ∧ k ≠ 4) := fun ⟨h1, h2⟩ => by
 rw [Bool.or_eq_true, beq_iff_eq, beq_iff_eq] at h
 exact h.elim h1 h2
theorem Dg.commR_1 {a b : Dg.Pt} (h : (a.kind == 1 || a.kind == 4) = false) : Dg.commR a b = true := by unfold Dg.commR; rw [if_pos (Or.inl (kinds_no h))]
theorem Dg.commR_2 {a b : Dg.Pt} (h : (b.kind == 1 || b.kind == 4) = false) : Dg.commR a b = true := by unfold Dg.commR; rw [if_pos (Or.inr (kinds_no h))]
theorem Dg.commR_3 {a b : Dg.Pt} (ha : (a.kind == 1 || a.kind == 4) = true) (hb : (b.kind == 1 || b.kind == 4) = true) (h : (b.kind == 1) = true) : Dg.commR a b = (!(decide (a.parent = b.parent) && decide (a.after = b.after)) && (!(decide (a.parent = b.id) || decide (a.after = b.id)) && !(decide (b.parent = a.id) || decide (b.after = a.id)))) := by
 unfold Dg.commR; rw [if_neg (fun h => h.elim (kinds_yes ha) (kinds_yes hb)), if_pos (beq_iff_eq.1 h)]
theorem Dg.commR_4 {a b : Dg.Pt} (ha : (a.kind == 1 || a.kind == 4) = true) (hb : (b.kind == 1 || b.kind == 4) = true) (h : (b.kind == 1) = false) (h2 : (a.kind == 1) = true) : Dg.commR a b = (!(decide (a.parent = b.parent) && decide (a.after = b.after)) && (!(decide (b.parent = a.id) || decide (b.after = a.id)) && !decide (a.after = b.id))) := by
 unfold Dg.commR; rw [if_neg (fun h => h.elim (kinds_yes ha) (kinds_yes hb)), if_neg (beq_eq_false_iff_ne.1 h), if_pos (beq_iff_eq.1 h2)]
theorem Dg.commR_5 {a b : Dg.Pt} (ha : (a.kind == 1 || a.kind == 4) = true) (hb : (b.kind == 1 || b.kind == 4) = true) (h : (b.kind == 1) = false) (h2 : (a.kind == 1) = false) : Dg.commR a b = (decide (a.parent = b.parent) && (!(decide (a.parent = b.parent) && decide (a.after = b.after)) && (!decide (a.after = b.id) && !decide (b.after = a.id)))) := by
 unfold Dg.commR; rw [if_neg (fun h => h.elim (kinds_yes ha) (kinds_yes hb)), if_neg (beq_eq_false_iff_ne.1 h), if_neg (beq_eq_false_iff_ne.1 h2)]
/-- Commute's variables, the lesser kind first. -/
structure CmQ (R : Bool) (x y : Dg.Pt) (w X : World) : Prop where
 r1 : X.heap[w.heap.size]? = some (.cells #[.int .i64 x.1, .string x.2, .string x.3, .string x.4, .string x.5, .int .i64 x.6.1, .string x.6.2, .string x.6.3, .string x.6.4, .string x.6.5, .string x.6.6, .bool x.6.7, .int .i64 x.7, .string x.8, .string x.9] 39 (0, 0))
 r2 : X.heap[w.heap.size + 1]? = some (.cells #[.int .i64 y.1, .string y.2, .string y.3, .string y.4, .string y.5, .int .i64 y.6.1, .string y.6.2, .string y.6.3, .string y.6.4, .string y.6.5, .string y.6.6, .bool y.6.7, .int .i64 y.7, .string y.8, .string y.9] 39 (0, 0))
 up : Below w.heap.size w X
 xw : PtW x
 yw : PtW y
 x2 : x.kind ≠ 2
 y2 : y.kind ≠ 2
 val : Dg.commO x y = R
theorem kind_two {p : Dg.Pt} (h : Dg.formedP p = true) : 1 ≤ p.kind ∧ p.kind ≤ 7 := by
 rcases Dg.formed_kind h with k | k | k | k | k | k <;> rw [k] <;> decide
theorem own_two {s : List (Int × Int)} {z : Int × Int} (hsl : z ∈ s ↔ z ∈ ownL) (hz : z ∈ s) : Kinds2 z.1 z.2 := by
 have h := hsl.1 hz
 unfold ownL at h
 simp only [List.mem_cons, List.not_mem_nil, or_false] at h
 unfold Kinds2
 rcases h with rfl | rfl | rfl | rfl | rfl <;> decide
set_option maxRecDepth 100000 in
set_option maxHeartbeats 16000000 in
attribute [-go_sem] Instr.storeAt in
attribute [-go_sem] run_eql_struct in
theorem commute_any (a b : Dg.Pt) (ha : PtW a) (hb : PtW b) (ha2 : a.kind ≠ 2) (hb2 : b.kind ≠ 2) (R : Bool) (hR : Dg.commP a b = R) (w : World) :
  Calls Try.prog 34 #[.agg #[.int .i64 a.1, .string a.2, .string a.3, .string a.4, .string a.5, .int .i64 a.6.1, .string a.6.2, .string a.6.3, .string a.6.4, .string a.6.5, .string a.6.6, .bool a.6.7, .int .i64 a.7, .string a.8, .string a.9], .agg #[.int .i64 b.1, .string b.2, .string b.3, .string b.4, .string b.5, .int .i64 b.6.1, .string b.6.2, .string b.6.3, .string b.6.4, .string b.6.5, .string b.6.6, .bool b.6.7, .int .i64 b.7, .string b.8, .string b.9]] w fun e w' => e = .returned (.bool R) ∧ Below w.heap.size w w' := by
 obtain ⟨r1, r2, hb0, hs⟩ := iAlloc2 w (.cells #[.int .i64 a.1, .string a.2, .string a.3, .string a.4, .string a.5, .int .i64 a.6.1, .string a.6.2, .string a.6.3, .string a.6.4, .string a.6.5, .string a.6.6, .bool a.6.7, .int .i64 a.7, .string a.8, .string a.9] 39) (.cells #[.int .i64 b.1, .string b.2, .string b.3, .string b.4, .string b.5, .int .i64 b.6.1, .string b.6.2, .string b.6.3, .string b.6.4, .string b.6.5, .string b.6.6, .bool b.6.7, .int .i64 b.7, .string b.8, .string b.9] 39)
 have hmx : Try.prog.follows .mixedOrders = true := by kernel_rfl
 have HA := hide ha; have HB := hide hb; have HA2 := hide ha2; have HB2 := hide hb2; have HR := hide hR
 clear ha hb ha2 hb2 hR
 have ca0 := (jC15 r1).1
 have cb0 := (jC15 r2).1
 have hka0 := HA.out.k0; have hka1 := HA.out.k1; have hkb0 := HB.out.k0; have hkb1 := HB.out.k1
 go_enter Try.func34, Try.ntmps34
 go_upto_if 10 with (fail)
 generalize (w.alloc (.cells #[.int .i64 a.1, .string a.2, .string a.3, .string a.4, .string a.5, .int .i64 a.6.1, .string a.6.2, .string a.6.3, .string a.6.4, .string a.6.5, .string a.6.6, .bool a.6.7, .int .i64 a.7, .string a.8, .string a.9] 39)).alloc (.cells #[.int .i64 b.1, .string b.2, .string b.3, .string b.4, .string b.5, .int .i64 b.6.1, .string b.6.2, .string b.6.3, .string b.6.4, .string b.6.5, .string b.6.6, .bool b.6.7, .int .i64 b.7, .string b.8, .string b.9] 39) = w1 at *
 clear ca0 cb0
 go_cut [] from 10 to 12 (fun wx => ∃ x y, CmQ R x y w wx)
 case first =>
  by_cases hlt : b.kind < a.kind
  ·have hL2 := hide (range_of r1 0 [.int .i64 a.1, .string a.2, .string a.3, .string a.4, .string a.5, .int .i64 a.6.1, .string a.6.2, .string a.6.3, .string a.6.4, .string a.6.5, .string a.6.6, .bool a.6.7, .int .i64 a.7, .string a.8, .string a.9] rfl)
   have hL3 := hide (range_of r2 0 [.int .i64 b.1, .string b.2, .string b.3, .string b.4, .string b.5, .int .i64 b.6.1, .string b.6.2, .string b.6.3, .string b.6.4, .string b.6.5, .string b.6.6, .bool b.6.7, .int .i64 b.7, .string b.8, .string b.9] rfl)
   have hst1 := store_row (ty := 39) w1 w.heap.size #[.int .i64 a.1, .string a.2, .string a.3, .string a.4, .string a.5, .int .i64 a.6.1, .string a.6.2, .string a.6.3, .string a.6.4, .string a.6.5, .string a.6.6, .bool a.6.7, .int .i64 a.7, .string a.8, .string a.9] #[.int .i64 b.1, .string b.2, .string b.3, .string b.4, .string b.5, .int .i64 b.6.1, .string b.6.2, .string b.6.3, .string b.6.4, .string b.6.5, .string b.6.6, .bool b.6.7, .int .i64 b.7, .string b.8, .string b.9] r1 (by kernel_rfl) rfl (all_oneCell_toArray (ptL.one b))
   have q1 := setRow_heap w1 w.heap.size _ #[.int .i64 b.1, .string b.2, .string b.3, .string b.4, .string b.5, .int .i64 b.6.1, .string b.6.2, .string b.6.3, .string b.6.4, .string b.6.5, .string b.6.6, .bool b.6.7, .int .i64 b.7, .string b.8, .string b.9] _ _ r1
   have q2 := (setRow_other w1 w.heap.size (w.heap.size + 1) #[.int .i64 b.1, .string b.2, .string b.3, .string b.4, .string b.5, .int .i64 b.6.1, .string b.6.2, .string b.6.3, .string b.6.4, .string b.6.5, .string b.6.6, .bool b.6.7, .int .i64 b.7, .string b.8, .string b.9] (by omega)).trans r2
   have hst2 := store_row (ty := 39) (w1.setRow w.heap.size #[.int .i64 b.1, .string b.2, .string b.3, .string b.4, .string b.5, .int .i64 b.6.1, .string b.6.2, .string b.6.3, .string b.6.4, .string b.6.5, .string b.6.6, .bool b.6.7, .int .i64 b.7, .string b.8, .string b.9]) (w.heap.size + 1) #[.int .i64 b.1, .string b.2, .string b.3, .string b.4, .string b.5, .int .i64 b.6.1, .string b.6.2, .string b.6.3, .string b.6.4, .string b.6.5, .string b.6.6, .bool b.6.7, .int .i64 b.7, .string b.8, .string b.9] #[.int .i64 a.1, .string a.2, .string a.3, .string a.4, .string a.5, .int .i64 a.6.1, .string a.6.2, .string a.6.3, .string a.6.4, .string a.6.5, .string a.6.6, .bool a.6.7, .int .i64 a.7, .string a.8, .string a.9] q2 (by kernel_rfl) rfl (all_oneCell_toArray (ptL.one a))
   have z2 := setRow_heap (w1.setRow w.heap.size #[.int .i64 b.1, .string b.2, .string b.3, .string b.4, .string b.5, .int .i64 b.6.1, .string b.6.2, .string b.6.3, .string b.6.4, .string b.6.5, .string b.6.6, .bool b.6.7, .int .i64 b.7, .string b.8, .string b.9]) (w.heap.size + 1) _ #[.int .i64 a.1, .string a.2, .string a.3, .string a.4, .string a.5, .int .i64 a.6.1, .string a.6.2, .string a.6.3, .string a.6.4, .string a.6.5, .string a.6.6, .bool a.6.7, .int .i64 a.7, .string a.8, .string a.9] _ _ q2
   have z1 := (setRow_other (w1.setRow w.heap.size #[.int .i64 b.1, .string b.2, .string b.3, .string b.4, .string b.5, .int .i64 b.6.1, .string b.6.2, .string b.6.3, .string b.6.4, .string b.6.5, .string b.6.6, .bool b.6.7, .int .i64 b.7, .string b.8, .string b.9]) (w.heap.size + 1) w.heap.size #[.int .i64 a.1, .string a.2, .string a.3, .string a.4, .string a.5, .int .i64 a.6.1, .string a.6.2, .string a.6.3, .string a.6.4, .string a.6.5, .string a.6.6, .bool a.6.7, .int .i64 a.7, .string a.8, .string a.9] (by omega)).trans q1
   have hz := below_setRow (below_setRow hb0 (Nat.le_refl _) (g := w.heap.size) #[.int .i64 b.1, .string b.2, .string b.3, .string b.4, .string b.5, .int .i64 b.6.1, .string b.6.2, .string b.6.3, .string b.6.4, .string b.6.5, .string b.6.6, .bool b.6.7, .int .i64 b.7, .string b.8, .string b.9]) (by omega) (g := w.heap.size + 1) #[.int .i64 a.1, .string a.2, .string a.3, .string a.4, .string a.5, .int .i64 a.6.1, .string a.6.2, .string a.6.3, .string a.6.4, .string a.6.5, .string a.6.6, .bool a.6.7, .int .i64 a.7, .string a.8, .string a.9]
   have HC := hide (show CmQ R b a w ((w1.setRow w.heap.size #[.int .i64 b.1, .string b.2, .string b.3, .string b.4, .string b.5, .int .i64 b.6.1, .string b.6.2, .string b.6.3, .string b.6.4, .string b.6.5, .string b.6.6, .bool b.6.7, .int .i64 b.7, .string b.8, .string b.9]).setRow (w.heap.size + 1) #[.int .i64 a.1, .string a.2, .string a.3, .string a.4, .string a.5, .int .i64 a.6.1, .string a.6.2, .string a.6.3, .string a.6.4, .string a.6.5, .string a.6.6, .bool a.6.7, .int .i64 a.7, .string a.8, .string a.9]) from ⟨z1, z2, hz, HB.out, HA.out, HB2.out, HA2.out, by rw [← HR.out]; unfold Dg.commP; rw [if_pos hlt]⟩)
   clear q1 q2 z1 z2 hz r1 r2
   go_wp2_with (first | (with_reducible refine wpList_load_mid rfl 39 (.tmp 3) rfl  (w.heap.size + 1) 0 rfl _ _ hL3.out Try.underlying39 rfl (by kernel_rfl) ?_) | (with_reducible refine wpList_load_mid rfl 39 (.tmp 2) rfl  w.heap.size 0 rfl _ _ hL2.out Try.underlying39 rfl (by kernel_rfl) ?_))
   go_meet
   case rel => exact ⟨b, a, HC.out⟩
  ·have HC := hide (show CmQ R a b w w1 from ⟨r1, r2, hb0, HA.out, HB.out, HA2.out, HB2.out, by rw [← HR.out]; unfold Dg.commP; rw [if_neg hlt]⟩)
   clear r1 r2
   go_wp2_with fail
   go_meet
   case rel => exact ⟨a, b, HC.out⟩
 case rest =>
  obtain ⟨x, y, hC⟩ := hcut
  rename World => w2
  clear HA HB HA2 HB2 HR r1 r2 hb0 hs hka0 hka1 hkb0 hkb1
  have HC := hide hC
  have HB3 := hide hC.up
  clear hC
  obtain ⟨bx, hbx⟩ : ∃ bx, bx = w.heap.size := ⟨_, rfl⟩
  obtain ⟨by', hby⟩ : ∃ by', by' = w.heap.size + 1 := ⟨_, rfl⟩
  have R1 := hide (show w2.heap[bx]? = some (.cells #[.int .i64 x.1, .string x.2, .string x.3, .string x.4, .string x.5, .int .i64 x.6.1, .string x.6.2, .string x.6.3, .string x.6.4, .string x.6.5, .string x.6.6, .bool x.6.7, .int .i64 x.7, .string x.8, .string x.9] 39 (0, 0)) by rw [hbx]; exact HC.out.r1)
  have R2 := hide (show w2.heap[by']? = some (.cells #[.int .i64 y.1, .string y.2, .string y.3, .string y.4, .string y.5, .int .i64 y.6.1, .string y.6.2, .string y.6.3, .string y.6.4, .string y.6.5, .string y.6.6, .bool y.6.7, .int .i64 y.7, .string y.8, .string y.9] 39 (0, 0)) by rw [hby]; exact HC.out.r2)
  rw [← hby, ← hbx]
  clear hbx hby
  have HXK := hide (fun X (hX : Below w2.heap.size w2 X) => iNext R1.out hX)
  have HYK := hide (fun X (hX : Below w2.heap.size w2 X) => iNext R2.out hX)
  obtain ⟨p1, hp1⟩ : ∃ p, (x.parent.toList == y.parent.toList) = p := ⟨_, rfl⟩
  obtain ⟨p2, hp2⟩ : ∃ p, (x.after.toList == y.after.toList) = p := ⟨_, rfl⟩
  have HTH := hide (show (decide (x.parent = y.parent) && decide (x.after = y.after)) = (p1 && p2) by rw [dec_beq, dec_beq, hp1, hp2])
  have HP1 := hide (show decide (x.parent = y.parent) = p1 by rw [dec_beq, hp1])
  have HQ1 := hide hp1; have HQ2 := hide hp2
  clear hp1 hp2
  go_upto_region 3 with (fail)
  go_cut [5] from 13 to 24 (fun v5 wx => v5 = .bool (p1 && p2) ∧ wx = w2)
  case first =>
   have cx2 : w2.cell? ⟨bx, 2, none⟩ = some (.string x.parent) := cell_of_row _ _ 2 _ _ _ (R1.out)
   have cx3 : w2.cell? ⟨bx, 3, none⟩ = some (.string x.after) := cell_of_row _ _ 3 _ _ _ (R1.out)
   have cy2 : w2.cell? ⟨by', 2, none⟩ = some (.string y.parent) := cell_of_row _ _ 2 _ _ _ (R2.out)
   have cy3 : w2.cell? ⟨by', 3, none⟩ = some (.string y.after) := cell_of_row _ _ 3 _ _ _ (R2.out)
   have hp1 := HQ1.out
   have hp2 := HQ2.out
   cases p1 <;> cases p2 <;> (go_wp2_with fail; go_meet; exact ⟨rfl, rfl⟩)
  obtain ⟨rfl, rfl⟩ := hcut
  rename World => w2
  obtain ⟨th, hth⟩ : ∃ th, (p1 && p2) = th := ⟨_, rfl⟩
  have HT2 := hide hth
  rw [hth]
  clear hth
  have HTV := hide (HTH.out.trans HT2.out)
  have hL2 := hide (range_of R1.out 0 [.int .i64 x.1, .string x.2, .string x.3, .string x.4, .string x.5, .int .i64 x.6.1, .string x.6.2, .string x.6.3, .string x.6.4, .string x.6.5, .string x.6.6, .bool x.6.7, .int .i64 x.7, .string x.8, .string x.9] rfl)
  obtain ⟨fx, hfx⟩ : ∃ f, Dg.formedP x = f := ⟨_, rfl⟩
  obtain ⟨fy, hfy⟩ : ∃ f, Dg.formedP y = f := ⟨_, rfl⟩
  have HFX := hide hfx; have HFY := hide hfy
  clear hfx hfy
  go_wp2_with (with_reducible refine wpList_load_mid rfl 39 (.tmp 2) rfl  bx 0 rfl _ _ hL2.out Try.underlying39 rfl (by kernel_rfl) ?_)
  refine (cformed_of x HC.out.xw HC.out.x2 fx HFX.out w2).mono ?_
  rintro e w3 ⟨rfl, hb3⟩
  have R13 := hide (HXK.out _ hb3); have R23 := hide (HYK.out _ hb3)
  have HB4 := hide hb3
  clear hb3 hL2
  have hL3 := hide (range_of R23.out 0 [.int .i64 y.1, .string y.2, .string y.3, .string y.4, .string y.5, .int .i64 y.6.1, .string y.6.2, .string y.6.3, .string y.6.4, .string y.6.5, .string y.6.6, .bool y.6.7, .int .i64 y.7, .string y.8, .string y.9] rfl)
  cases fx with
  | false =>
   go_wp2
   go_ret
   exact ⟨by rw [← HC.out.val, Dg.commO_1 HFX.out] <;> rfl, HB3.out.trans (HB4.out.mono HB3.out.size)⟩
  | true =>
  go_wp2_with (refine wpList_load_midW 39 (.tmp 3) rfl (by rfl) by' 0 rfl _ _ hL3.out Try.underlying39 rfl (by kernel_rfl) ?_)
  refine (cformed_of y HC.out.yw HC.out.y2 fy HFY.out w3).mono ?_
  rintro e w4 ⟨rfl, hb4⟩
  have R14 := hide (iNext R13.out hb4); have R24 := hide (iNext R23.out hb4)
  have HB5 := hide (bnext HB4.out hb4)
  have HB6 := hide (HB3.out.trans (HB5.out.mono HB3.out.size))
  clear hb4 hL3 R13 R23 HB4
  cases fy with
  | false =>
   go_wp2
   go_ret
   exact ⟨by rw [← HC.out.val, Dg.commO_2 HFY.out] <;> rfl, HB6.out⟩
  | true =>
  obtain ⟨E, hE⟩ : ∃ E, sameP x y = E := ⟨_, rfl⟩
  have hpr : ∀ w, (binOp .eql 39 (.agg #[.int .i64 x.1, .string x.2, .string x.3, .string x.4, .string x.5, .int .i64 x.6.1, .string x.6.2, .string x.6.3, .string x.6.4, .string x.6.5, .string x.6.6, .bool x.6.7, .int .i64 x.7, .string x.8, .string x.9]) (.agg #[.int .i64 y.1, .string y.2, .string y.3, .string y.4, .string y.5, .int .i64 y.6.1, .string y.6.2, .string y.6.3, .string y.6.4, .string y.6.5, .string y.6.6, .bool y.6.7, .int .i64 y.7, .string y.8, .string y.9])).run Try.prog w = .ok (.bool E) w := fun w => by rw [← hE]; exact patch_run w x y
  have HE := hide hE
  clear hE
  have hL2 := hide (range_of R14.out 0 [.int .i64 x.1, .string x.2, .string x.3, .string x.4, .string x.5, .int .i64 x.6.1, .string x.6.2, .string x.6.3, .string x.6.4, .string x.6.5, .string x.6.6, .bool x.6.7, .int .i64 x.7, .string x.8, .string x.9] rfl)
  have hL3 := hide (range_of R24.out 0 [.int .i64 y.1, .string y.2, .string y.3, .string y.4, .string y.5, .int .i64 y.6.1, .string y.6.2, .string y.6.3, .string y.6.4, .string y.6.5, .string y.6.6, .bool y.6.7, .int .i64 y.7, .string y.8, .string y.9] rfl)
  go_upto_if 34 with (first | (with_reducible refine wpList_load_mid rfl 39 (.tmp 2) rfl  bx 0 rfl _ _ hL2.out Try.underlying39 rfl (by kernel_rfl) ?_) | (with_reducible refine wpList_load_mid rfl 39 (.tmp 3) rfl  by' 0 rfl _ _ hL3.out Try.underlying39 rfl (by kernel_rfl) ?_))
  clear hpr hL2 hL3
  cases E with
  | true =>
   go_wp2
   go_ret
   exact ⟨by rw [← HC.out.val, Dg.commO_3 HFX.out HFY.out HE.out] <;> rfl, HB6.out⟩
  | false =>
  have cx0 : w4.cell? ⟨bx, 0, none⟩ = some (.int .i64 x.kind) := cell_of_row _ _ 0 _ _ _ (R14.out)
  have cx1 : w4.cell? ⟨bx, 1, none⟩ = some (.string x.id) := cell_of_row _ _ 1 _ _ _ (R14.out)
  have cx2 : w4.cell? ⟨bx, 2, none⟩ = some (.string x.parent) := cell_of_row _ _ 2 _ _ _ (R14.out)
  have cx3 : w4.cell? ⟨bx, 3, none⟩ = some (.string x.after) := cell_of_row _ _ 3 _ _ _ (R14.out)
  have cy0 : w4.cell? ⟨by', 0, none⟩ = some (.int .i64 y.kind) := cell_of_row _ _ 0 _ _ _ (R24.out)
  have cy1 : w4.cell? ⟨by', 1, none⟩ = some (.string y.id) := cell_of_row _ _ 1 _ _ _ (R24.out)
  have cy2 : w4.cell? ⟨by', 2, none⟩ = some (.string y.parent) := cell_of_row _ _ 2 _ _ _ (R24.out)
  have cy3 : w4.cell? ⟨by', 3, none⟩ = some (.string y.after) := cell_of_row _ _ 3 _ _ _ (R24.out)
  have kx := kind_two HFX.out
  have ky := kind_two HFY.out
  have KX := hide kx; have KY := hide ky
  clear kx ky
  cases hid : (x.id.toList == y.id.toList) with
  | true =>
   have HID := hide hid
   go_upto_region 9 with (fail)
   clear hid cx0 cx1 cx2 cx3 cy0 cy1 cy2 cy3
   have x2 : (x.kind == 2) = false := beq_eq_false_iff_ne.2 HC.out.x2
   have HXK4 := hide (fun X (hX : Below w4.heap.size w4 X) => iNext R14.out hX)
   have HYK4 := hide (fun X (hX : Below w4.heap.size w4 X) => iNext R24.out hX)
   have hK2 : Kinds2 x.kind y.kind := ⟨KX.out.1, KX.out.2, KY.out.1, KY.out.2⟩
   have HK2 := hide hK2
   clear hK2
   refine wp_region_noPanic ?_
   refine wp_region_L (Below w4.heap.size w4) 27 hmx ?_
   have hH0 : (Below w4.heap.size w4) w4.drew := (Below.refl w4.heap.size w4).drew
   generalize w4.drew = u0 at *
   cases hk : (x.kind == y.kind) with
   | true =>
    refine tkY 0 29 ?_ rfl ?_ hH0 ?_
    rotate_left
    ·intro wS hS; go_simp; (try with_reducible rfl)
    simp only [Act.put, pu1, pu2, pu3, pu4, pu5, pu6]
    refine tkY 1 29 ?_ rfl ?_ hH0 ?_
    rotate_left
    ·intro wS hS; have cx : wS.cell? ⟨bx, 0, none⟩ = some (.int .i64 x.kind) := cell_of_row _ _ 0 _ _ _ (HXK4.out _ hS); go_simp; (try with_reducible rfl)
    simp only [Act.put, pu1, pu2, pu3, pu4, pu5, pu6]
    refine tkY 2 29 ?_ rfl ?_ hH0 ?_
    rotate_left
    ·intro wS hS; go_simp; (try with_reducible rfl)
    simp only [Act.put, pu1, pu2, pu3, pu4, pu5, pu6]
    refine tkY 3 29 ?_ rfl ?_ hH0 ?_
    rotate_left
    ·intro wS hS; have cy : wS.cell? ⟨by', 0, none⟩ = some (.int .i64 y.kind) := cell_of_row _ _ 0 _ _ _ (HYK4.out _ hS); go_simp; (try with_reducible rfl)
    simp only [Act.put, pu1, pu2, pu3, pu4, pu5, pu6]
    refine tkY 4 29 ?_ rfl ?_ hH0 ?_
    rotate_left
    ·intro wS hS; go_simp; (try with_reducible rfl)
    simp only [Act.put, pu1, pu2, pu3, pu4, pu5, pu6]
    refine tkY 5 29 ?_ rfl ?_ hH0 ?_
    rotate_left
    ·intro wS hS; go_simp; (try with_reducible rfl)
    simp only [Act.put, pu1, pu2, pu3, pu4, pu5, pu6]
    refine tkY 6 29 ?_ rfl ?_ hH0 ?_
    rotate_left
    ·intro wS hS; go_simp; (try with_reducible rfl)
    simp only [Act.put, pu1, pu2, pu3, pu4, pu5, pu6]
    refine tkY 7 29 ?_ rfl ?_ hH0 ?_
    rotate_left
    ·intro wS hS; have cx : wS.cell? ⟨bx, 0, none⟩ = some (.int .i64 x.kind) := cell_of_row _ _ 0 _ _ _ (HXK4.out _ hS); go_simp; (try with_reducible rfl)
    simp only [Act.put, pu1, pu2, pu3, pu4, pu5, pu6]
    refine tkY 8 29 ?_ rfl ?_ hH0 ?_
    rotate_left
    ·intro wS hS; go_simp; (try with_reducible rfl)
    simp only [Act.put, pu1, pu2, pu3, pu4, pu5, pu6]
    refine tkY 9 29 ?_ rfl ?_ hH0 ?_
    rotate_left
    ·intro wS hS; go_simp; (try with_reducible rfl)
    simp only [Act.put, pu1, pu2, pu3, pu4, pu5, pu6]
    refine tkY 10 29 ?_ rfl ?_ hH0 ?_
    rotate_left
    ·intro wS hS; go_simp; (try with_reducible rfl)
    simp only [Act.put, pu1, pu2, pu3, pu4, pu5, pu6]
    refine tkV 11 29 (undef) rfl (Or.inr ⟨by rfl, rfl⟩) hH0 ?_
    simp only [Act.put, pu1, pu2, pu3, pu4, pu5, pu6]
    refine tkV 12 29 (undef) rfl (Or.inr ⟨by rfl, rfl⟩) hH0 ?_
    simp only [Act.put, pu1, pu2, pu3, pu4, pu5, pu6]
    refine tkV 13 29 (undef) rfl (Or.inr ⟨by rfl, rfl⟩) hH0 ?_
    simp only [Act.put, pu1, pu2, pu3, pu4, pu5, pu6]
    refine tkV 14 29 (undef) rfl (Or.inr ⟨by rfl, rfl⟩) hH0 ?_
    simp only [Act.put, pu1, pu2, pu3, pu4, pu5, pu6]
    refine tkV 15 29 (undef) rfl (Or.inr ⟨by rfl, rfl⟩) hH0 ?_
    simp only [Act.put, pu1, pu2, pu3, pu4, pu5, pu6]
    refine tkY 16 29 ?_ rfl ?_ hH0 ?_
    rotate_left
    ·intro wS hS; go_simp; (try with_reducible rfl)
    simp only [Act.put, pu1, pu2, pu3, pu4, pu5, pu6]
    refine tkY 17 29 ?_ rfl ?_ hH0 ?_
    rotate_left
    ·intro wS hS; go_simp; (try with_reducible rfl)
    simp only [Act.put, pu1, pu2, pu3, pu4, pu5, pu6]
    refine tkY 19 29 ?_ rfl ?_ hH0 ?_
    rotate_left
    ·intro wS hS; go_simp; (try with_reducible rfl)
    simp only [Act.put, pu1, pu2, pu3, pu4, pu5, pu6]
    refine tkY 20 29 ?_ rfl ?_ hH0 ?_
    rotate_left
    ·intro wS hS; have cx : wS.cell? ⟨bx, 0, none⟩ = some (.int .i64 x.kind) := cell_of_row _ _ 0 _ _ _ (HXK4.out _ hS); go_simp; (try with_reducible rfl)
    simp only [Act.put, pu1, pu2, pu3, pu4, pu5, pu6]
    refine tkY 21 29 ?_ rfl ?_ hH0 ?_
    rotate_left
    ·intro wS hS; go_simp; (try with_reducible rfl)
    simp only [Act.put, pu1, pu2, pu3, pu4, pu5, pu6]
    refine tkY 22 29 ?_ rfl ?_ hH0 ?_
    rotate_left
    ·intro wS hS; have cy : wS.cell? ⟨by', 0, none⟩ = some (.int .i64 y.kind) := cell_of_row _ _ 0 _ _ _ (HYK4.out _ hS); go_simp; (try with_reducible rfl)
    simp only [Act.put, pu1, pu2, pu3, pu4, pu5, pu6]
    refine tkY 23 29 ?_ rfl ?_ hH0 ?_
    rotate_left
    ·intro wS hS; go_simp; (try with_reducible rfl)
    simp only [Act.put, pu1, pu2, pu3, pu4, pu5, pu6]
    refine onY 18 (by rfl) fun K hK => ?_
    go_simp
    refine (own_of u0).mono ?_
    rintro e u1 ⟨⟨s, hsl, rfl, hso⟩, hx1⟩
    have hH1 := hH0.trans (hx1.mono hH0.size)
    refine hK.out _ _ (Or.inr hH1) ?_
    clear hK K hx1 hH0
    have hlk := pair_run hso (fun z hz => own_two (hsl z) hz) HK2.out
    rw [own_spec hsl HC.out.x2] at hlk
    have HOV := hide (show Dg.ownP x.kind y.kind = R from (Dg.commO_4 HFX.out HFY.out HE.out HID.out).symm.trans HC.out.val)
    rw [HOV.out] at hlk
    try simp only [Act.put, pu1, pu2, pu3, pu4, pu5, pu6]
    refine onY 24 (by rfl) fun K hK => ?_
    go_simp
    refine hK.out _ _ (Or.inr hH1) ?_
    clear hK K
    try simp only [Act.put, pu1, pu2, pu3, pu4, pu5, pu6]
    refine tkY 25 29 ?_ rfl ?_ hH1 ?_
    rotate_left
    ·intro wS hS; go_simp; (try with_reducible rfl)
    simp only [Act.put, pu1, pu2, pu3, pu4, pu5, pu6]
    refine tkY 26 29 ?_ rfl ?_ hH1 ?_
    rotate_left
    ·intro wS hS; go_simp; (try with_reducible rfl)
    simp only [Act.put, pu1, pu2, pu3, pu4, pu5, pu6]
    refine dnY ?_
    clear hlk
    go_wp2
    go_ret
    exact ⟨rfl, HB6.out.trans (hH1.mono HB6.out.size)⟩
   | false =>
    refine tkY 0 29 ?_ rfl ?_ hH0 ?_
    rotate_left
    ·intro wS hS; go_simp; (try with_reducible rfl)
    simp only [Act.put, pu1, pu2, pu3, pu4, pu5, pu6]
    refine tkY 1 29 ?_ rfl ?_ hH0 ?_
    rotate_left
    ·intro wS hS; have cx : wS.cell? ⟨bx, 0, none⟩ = some (.int .i64 x.kind) := cell_of_row _ _ 0 _ _ _ (HXK4.out _ hS); go_simp; (try with_reducible rfl)
    simp only [Act.put, pu1, pu2, pu3, pu4, pu5, pu6]
    refine tkY 2 29 ?_ rfl ?_ hH0 ?_
    rotate_left
    ·intro wS hS; go_simp; (try with_reducible rfl)
    simp only [Act.put, pu1, pu2, pu3, pu4, pu5, pu6]
    refine tkY 3 29 ?_ rfl ?_ hH0 ?_
    rotate_left
    ·intro wS hS; have cy : wS.cell? ⟨by', 0, none⟩ = some (.int .i64 y.kind) := cell_of_row _ _ 0 _ _ _ (HYK4.out _ hS); go_simp; (try with_reducible rfl)
    simp only [Act.put, pu1, pu2, pu3, pu4, pu5, pu6]
    refine tkY 4 29 ?_ rfl ?_ hH0 ?_
    rotate_left
    ·intro wS hS; go_simp; (try with_reducible rfl)
    simp only [Act.put, pu1, pu2, pu3, pu4, pu5, pu6]
    refine tkY 5 29 ?_ rfl ?_ hH0 ?_
    rotate_left
    ·intro wS hS; go_simp; (try with_reducible rfl)
    simp only [Act.put, pu1, pu2, pu3, pu4, pu5, pu6]
    refine tkV 6 29 (undef) rfl (Or.inr ⟨by rfl, rfl⟩) hH0 ?_
    simp only [Act.put, pu1, pu2, pu3, pu4, pu5, pu6]
    refine tkV 7 29 (undef) rfl (Or.inr ⟨by rfl, rfl⟩) hH0 ?_
    simp only [Act.put, pu1, pu2, pu3, pu4, pu5, pu6]
    refine tkV 8 29 (undef) rfl (Or.inr ⟨by rfl, rfl⟩) hH0 ?_
    simp only [Act.put, pu1, pu2, pu3, pu4, pu5, pu6]
    refine tkY 9 29 ?_ rfl ?_ hH0 ?_
    rotate_left
    ·intro wS hS; go_simp; (try with_reducible rfl)
    simp only [Act.put, pu1, pu2, pu3, pu4, pu5, pu6]
    refine tkY 10 29 ?_ rfl ?_ hH0 ?_
    rotate_left
    ·intro wS hS; go_simp; (try with_reducible rfl)
    simp only [Act.put, pu1, pu2, pu3, pu4, pu5, pu6]
    refine tkV 11 29 (undef) rfl (Or.inr ⟨by rfl, rfl⟩) hH0 ?_
    simp only [Act.put, pu1, pu2, pu3, pu4, pu5, pu6]
    refine tkV 12 29 (undef) rfl (Or.inr ⟨by rfl, rfl⟩) hH0 ?_
    simp only [Act.put, pu1, pu2, pu3, pu4, pu5, pu6]
    refine tkV 13 29 (undef) rfl (Or.inr ⟨by rfl, rfl⟩) hH0 ?_
    simp only [Act.put, pu1, pu2, pu3, pu4, pu5, pu6]
    refine tkV 14 29 (undef) rfl (Or.inr ⟨by rfl, rfl⟩) hH0 ?_
    simp only [Act.put, pu1, pu2, pu3, pu4, pu5, pu6]
    refine tkV 15 29 (undef) rfl (Or.inr ⟨by rfl, rfl⟩) hH0 ?_
    simp only [Act.put, pu1, pu2, pu3, pu4, pu5, pu6]
    refine tkY 16 29 ?_ rfl ?_ hH0 ?_
    rotate_left
    ·intro wS hS; go_simp; (try with_reducible rfl)
    simp only [Act.put, pu1, pu2, pu3, pu4, pu5, pu6]
    refine tkY 17 29 ?_ rfl ?_ hH0 ?_
    rotate_left
    ·intro wS hS; go_simp; (try with_reducible rfl)
    simp only [Act.put, pu1, pu2, pu3, pu4, pu5, pu6]
    refine tkY 19 29 ?_ rfl ?_ hH0 ?_
    rotate_left
    ·intro wS hS; go_simp; (try with_reducible rfl)
    simp only [Act.put, pu1, pu2, pu3, pu4, pu5, pu6]
    refine tkY 20 29 ?_ rfl ?_ hH0 ?_
    rotate_left
    ·intro wS hS; have cx : wS.cell? ⟨bx, 0, none⟩ = some (.int .i64 x.kind) := cell_of_row _ _ 0 _ _ _ (HXK4.out _ hS); go_simp; (try with_reducible rfl)
    simp only [Act.put, pu1, pu2, pu3, pu4, pu5, pu6]
    refine tkY 21 29 ?_ rfl ?_ hH0 ?_
    rotate_left
    ·intro wS hS; go_simp; (try with_reducible rfl)
    simp only [Act.put, pu1, pu2, pu3, pu4, pu5, pu6]
    refine tkY 22 29 ?_ rfl ?_ hH0 ?_
    rotate_left
    ·intro wS hS; have cy : wS.cell? ⟨by', 0, none⟩ = some (.int .i64 y.kind) := cell_of_row _ _ 0 _ _ _ (HYK4.out _ hS); go_simp; (try with_reducible rfl)
    simp only [Act.put, pu1, pu2, pu3, pu4, pu5, pu6]
    refine tkY 23 29 ?_ rfl ?_ hH0 ?_
    rotate_left
    ·intro wS hS; go_simp; (try with_reducible rfl)
    simp only [Act.put, pu1, pu2, pu3, pu4, pu5, pu6]
    refine onY 18 (by rfl) fun K hK => ?_
    go_simp
    refine (own_of u0).mono ?_
    rintro e u1 ⟨⟨s, hsl, rfl, hso⟩, hx1⟩
    have hH1 := hH0.trans (hx1.mono hH0.size)
    refine hK.out _ _ (Or.inr hH1) ?_
    clear hK K hx1 hH0
    have hlk := pair_run hso (fun z hz => own_two (hsl z) hz) HK2.out
    rw [own_spec hsl HC.out.x2] at hlk
    have HOV := hide (show Dg.ownP x.kind y.kind = R from (Dg.commO_4 HFX.out HFY.out HE.out HID.out).symm.trans HC.out.val)
    rw [HOV.out] at hlk
    try simp only [Act.put, pu1, pu2, pu3, pu4, pu5, pu6]
    refine onY 24 (by rfl) fun K hK => ?_
    go_simp
    refine hK.out _ _ (Or.inr hH1) ?_
    clear hK K
    try simp only [Act.put, pu1, pu2, pu3, pu4, pu5, pu6]
    refine tkY 25 29 ?_ rfl ?_ hH1 ?_
    rotate_left
    ·intro wS hS; go_simp; (try with_reducible rfl)
    simp only [Act.put, pu1, pu2, pu3, pu4, pu5, pu6]
    refine tkY 26 29 ?_ rfl ?_ hH1 ?_
    rotate_left
    ·intro wS hS; go_simp; (try with_reducible rfl)
    simp only [Act.put, pu1, pu2, pu3, pu4, pu5, pu6]
    refine dnY ?_
    clear hlk
    go_wp2
    go_ret
    exact ⟨rfl, HB6.out.trans (hH1.mono HB6.out.size)⟩
  | false =>
  have HCR := hide (show Dg.commR x y = R from (Dg.commO_5 HFX.out HFY.out HE.out hid).symm.trans HC.out.val)
  obtain ⟨px, hpx⟩ : ∃ p, (x.kind == 1 || x.kind == 4) = p := ⟨_, rfl⟩
  obtain ⟨py, hpy⟩ : ∃ p, (y.kind == 1 || y.kind == 4) = p := ⟨_, rfl⟩
  have HPX := hide hpx; have HPY := hide hpy
  clear hpx hpy
  go_wp2_with (fail)
  refine (places_of x.kind _).mono ?_
  rintro e _ ⟨rfl, rfl⟩
  rw [HPX.out]
  cases px with
  | false =>
   go_wp2
   go_ret
   exact ⟨by rw [← HCR.out, Dg.commR_1 HPX.out] <;> rfl, HB6.out⟩
  | true =>
  go_wp2_with (fail)
  refine (places_of y.kind _).mono ?_
  rintro e _ ⟨rfl, rfl⟩
  rw [HPY.out]
  cases py with
  | false =>
   go_wp2
   go_ret
   exact ⟨by rw [← HCR.out, Dg.commR_2 HPY.out] <;> rfl, HB6.out⟩
  | true =>
  cases hy1 : (y.kind == 1) with
  | true =>
   have HV := hide (HCR.out.symm.trans (Dg.commR_3 HPX.out HPY.out hy1))
   obtain ⟨n1, hn1⟩ : ∃ n, (decide (x.parent = y.id) || decide (x.after = y.id)) = n := ⟨_, rfl⟩
   obtain ⟨n2, hn2⟩ : ∃ n, (decide (y.parent = x.id) || decide (y.after = x.id)) = n := ⟨_, rfl⟩
   have HN1 := hide hn1; have HN2 := hide hn2
   have HW := hide (show R = (!th && (!n1 && !n2)) by rw [HV.out, HTV.out, hn1, hn2])
   clear hn1 hn2 HV
   have hL2 := hide (range_of R14.out 0 [.int .i64 x.1, .string x.2, .string x.3, .string x.4, .string x.5, .int .i64 x.6.1, .string x.6.2, .string x.6.3, .string x.6.4, .string x.6.5, .string x.6.6, .bool x.6.7, .int .i64 x.7, .string x.8, .string x.9] rfl)
   cases th with
   | true =>
    go_wp2
    go_ret
    exact ⟨by rw [HW.out]; rfl, HB6.out⟩
   | false =>
   go_wp2_with (refine wpList_load_midW 39 (.tmp 2) rfl (by rfl) bx 0 rfl _ _ hL2.out Try.underlying39 rfl (by kernel_rfl) ?_)
   refine (names_of x y.id n1 HN1.out _).mono ?_
   rintro e w5 ⟨rfl, hb5⟩
   have R15 := hide (iNext R14.out hb5); have R25 := hide (iNext R24.out hb5)
   have HB7 := hide (HB6.out.trans (hb5.mono HB6.out.size))
   clear hb5 cx0 cx1 cx2 cx3 cy0 cy1 cy2 cy3 hL2
   cases n1 with
   | true =>
    go_wp2
    go_ret
    exact ⟨by rw [HW.out]; rfl, HB7.out⟩
   | false =>
   have cx1 : w5.cell? ⟨bx, 1, none⟩ = some (.string x.id) := cell_of_row _ _ 1 _ _ _ (R15.out)
   have hL3 := hide (range_of R25.out 0 [.int .i64 y.1, .string y.2, .string y.3, .string y.4, .string y.5, .int .i64 y.6.1, .string y.6.2, .string y.6.3, .string y.6.4, .string y.6.5, .string y.6.6, .bool y.6.7, .int .i64 y.7, .string y.8, .string y.9] rfl)
   go_wp2_with (refine wpList_load_midW 39 (.tmp 3) rfl (by rfl) by' 0 rfl _ _ hL3.out Try.underlying39 rfl (by kernel_rfl) ?_)
   refine (names_of y x.id n2 HN2.out _).mono ?_
   rintro e w6 ⟨rfl, hb6⟩
   have HB8 := hide (HB7.out.trans (hb6.mono HB7.out.size))
   clear hb6 cx1 hL3
   cases n2 <;> (go_wp2; go_ret; exact ⟨by rw [HW.out]; rfl, HB8.out⟩)
  | false =>
  cases hx1 : (x.kind == 1) with
  | true =>
   have HV := hide (HCR.out.symm.trans (Dg.commR_4 HPX.out HPY.out hy1 hx1))
   obtain ⟨n2, hn2⟩ : ∃ n, (decide (y.parent = x.id) || decide (y.after = x.id)) = n := ⟨_, rfl⟩
   obtain ⟨q, hq⟩ : ∃ q, (x.after.toList == y.id.toList) = q := ⟨_, rfl⟩
   have HN2 := hide hn2; have HQ := hide hq
   have HW := hide (show R = (!th && (!n2 && !q)) by rw [HV.out, HTV.out, hn2, dec_beq, hq])
   clear hn2 hq HV
   have hL3 := hide (range_of R24.out 0 [.int .i64 y.1, .string y.2, .string y.3, .string y.4, .string y.5, .int .i64 y.6.1, .string y.6.2, .string y.6.3, .string y.6.4, .string y.6.5, .string y.6.6, .bool y.6.7, .int .i64 y.7, .string y.8, .string y.9] rfl)
   cases th with
   | true =>
    go_wp2
    go_ret
    exact ⟨by rw [HW.out]; rfl, HB6.out⟩
   | false =>
   go_wp2_with (refine wpList_load_midW 39 (.tmp 3) rfl (by rfl) by' 0 rfl _ _ hL3.out Try.underlying39 rfl (by kernel_rfl) ?_)
   refine (names_of y x.id n2 HN2.out _).mono ?_
   rintro e w5 ⟨rfl, hb5⟩
   have R15 := hide (iNext R14.out hb5); have R25 := hide (iNext R24.out hb5)
   have HB7 := hide (HB6.out.trans (hb5.mono HB6.out.size))
   clear hb5 cx0 cx1 cx2 cx3 cy0 cy1 cy2 cy3 hL3
   have cx3 : w5.cell? ⟨bx, 3, none⟩ = some (.string x.after) := cell_of_row _ _ 3 _ _ _ (R15.out)
   have cy1 : w5.cell? ⟨by', 1, none⟩ = some (.string y.id) := cell_of_row _ _ 1 _ _ _ (R25.out)
   have hq := HQ.out
   cases n2 <;> cases q <;> (go_wp2; go_ret; exact ⟨by rw [HW.out]; rfl, HB7.out⟩)
  | false =>
   have HV := hide (HCR.out.symm.trans (Dg.commR_5 HPX.out HPY.out hy1 hx1))
   obtain ⟨q, hq⟩ : ∃ q, (x.after.toList == y.id.toList) = q := ⟨_, rfl⟩
   obtain ⟨q2, hq2⟩ : ∃ q, (y.after.toList == x.id.toList) = q := ⟨_, rfl⟩
   have HW := hide (show R = (p1 && (!th && (!q && !q2))) by rw [HV.out, HTV.out, HP1.out, dec_beq x.after y.id, dec_beq y.after x.id, hq, hq2])
   clear HV
   have hp1 := HQ1.out
   cases p1 <;> cases th <;> cases q <;> cases q2 <;> (go_wp2; go_ret; exact ⟨by rw [HW.out]; rfl, HB6.out⟩)
end Go.Proofs.Ytgmimhgeigbpkaa
/- Items of a valid code, and three results. No conditions but those that each theorem states. -/
namespace Go.Proofs.Ytgmimhgeigbpkaa
open Go Go.RowKit Go.Sort Go.Maps
/-- Items of a valid code are of a moderate size. -/
theorem valid_itw {l : List Dg.It} (hv : Dg.validC l = true) : ∀ x ∈ l, ItW x := fun x hx => by
 have idz : ∀ z ∈ l, z.id.size ≤ 24 := fun z hz => by
  have h := (Dg.proper_id (Dg.valid_proper hv z hz)).1
  unfold Dg.isNameB at h
  rw [Bool.and_eq_true, decide_eq_true_eq] at h
  exact h.2
 have hpr := Dg.valid_proper hv x hx
 obtain ⟨i, hi, rfl⟩ := List.mem_iff_getElem.1 hx
 have hn := (Dg.proper_id hpr).2
 unfold Dg.isNumB at hn
 rw [Bool.and_eq_true, decide_eq_true_eq] at hn
 have hpz : l[i].parent.size ≤ 24 := by
  rcases Dg.up_at hv hi with h | ⟨j, hj, _, h, _⟩
  ·rw [h]; decide
  ·rw [← h]; exact idz _ (List.getElem_mem hj)
 have hid := idz _ hx
 rcases Dg.proper_kind hpr with ⟨k1, _, k3, k4⟩ | ⟨k1, k3, k4⟩
 ·exact ⟨by rw [k1]; decide, by rw [k1]; decide, by omega, by omega, by omega, by rw [k3]; decide, by rw [k4]; decide⟩
 ·exact ⟨by rw [k1]; decide, by rw [k1]; decide, by omega, by omega, by omega, by omega, by omega⟩
theorem valid_len {l : List Dg.It} (hv : Dg.validC l = true) : l.length ≤ 2000 := by
 unfold Dg.validC at hv
 rw [Bool.and_eq_true, decide_eq_true_eq] at hv
 exact hv.2
theorem results_c9 {fn : Func} {p u v : Tmp} {ty : TypeId} (h : fn.results = #[.cell p ty, .tmp u, .tmp v]) (tmps : Array Value) (w : World) (g : Nat) (t : TypeId) (cs : Array Value) (fr : Nat × Nat) (fs : Array Field)
  (hp : tmps.getD p undef = .pointer (some ⟨g, 0, none⟩)) (hg : w.heap[g]? = some (.cells cs t fr))
  (hu : Try.prog.underlying ty = some (.struct fs)) (hi : (Try.prog.info? ty).map (·.size) = some cs.size) :
  (results fn tmps).run Try.prog w = .ok (.tuple #[.agg cs, tmps.getD u undef, tmps.getD v undef]) w := by
 have hp' : tmps[p]?.getD undef = .pointer (some ⟨g, 0, none⟩) := by simpa using hp
 have hl := run_loadVar_row (P := Try.prog) w g t ty cs fr (.struct fs) hg hu rfl hi
 simp [results, h, hp', asAddr, Sem.run_bind, Result.andThen, hl]
/-- Items in no block that is written. -/
theorem its_off {w : World} {B : Nat} {A : Option Addr} {l : List Dg.It} (h : Its w B A l) {g : Nat} (hg : 0 < l.length → ∀ ad, A = some ad → ad.block ≠ g) (cs : Array Value) : Its (w.setRow g cs) B A l :=
 ⟨fun h0 => by
  obtain ⟨b, off, e, hlt, hc⟩ := h.at_ h0
  have hne : b ≠ g := hg h0 _ e
  refine ⟨b, off, e, hlt, fun j x hj i u hu => ?_⟩
  exact (World.cell?_of_block (w := w) (w' := w.setRow g cs) (a := ⟨b, off + j * 7 + i, none⟩) (setRow_other w g b cs hne)).trans (hc j x hj i u hu)⟩
/-- What comes back of one's own lies behind all that was. -/
theorem own_where {α : Type} {L : Lay α} {e : TypeId} {w : World} {B : Nat} {A : Option Addr} {n c : Nat} {l : List α} (h : Own1 L e w B (.slice A n c) l) : ∀ ad, A = some ad → B ≤ ad.block ∧ ad.block < w.heap.size := fun ad ha => by
 rcases h.2 with ⟨h1, _⟩ | ⟨g, cap, cur, hv, hB, hg, _⟩
 ·injection h1 with h1 _ _
  rw [ha] at h1; cases h1
 ·injection hv with hv _ _
  rw [ha] at hv
  cases hv
  exact ⟨hB, lt_of_block hg⟩
end Go.Proofs.Ytgmimhgeigbpkaa
/- All of package patch, where all patches are possible. No conditions but those that each theorem states. -/
namespace Go.Proofs.Ytgmimhgeigbpkaa
open Go Go.RowKit Go.Sort Go.Maps
/-- What holds at each round: the code so far. -/
structure AllS (b1 : Nat) (A : Option Addr) (n c : Nat) (l : List Dg.It) (X : World) : Prop where
 r1 : X.heap[b1]? = some (.cells #[.slice A n c] 24 (0, 0))
 r2 : X.heap[b1 + 1]? = some (.cells #[.slice none 0 0] 24 (0, 0))
 its : Its X X.heap.size A l
 ne : 0 < l.length → ∀ ad, A = some ad → ad.block ≠ b1 ∧ ad.block ≠ b1 + 1
 len : l.length = n
 cap : n ≤ c
 val : Dg.validC l = true
theorem AllS.below {b1 : Nat} {A : Option Addr} {n c : Nat} {l : List Dg.It} {X X' : World} (h : AllS b1 A n c l X) (hb : Below X.heap.size X X') : AllS b1 A n c l X' := ⟨iNext h.r1 hb, iNext h.r2 hb, h.its.keep hb, h.ne, h.len, h.cap, h.val⟩
theorem row_range {w : World} {B b off : Nat} {ps : List Dg.Pt} (h : Row1 ptL w B (some ⟨b, off, none⟩) ps) {k : Nat} (hk : k < ps.length) (p : Dg.Pt) (hp : ps[k] = p) : w.rangeAt b (off + k * 15) [.int .i64 p.1, .string p.2, .string p.3, .string p.4, .string p.5, .int .i64 p.6.1, .string p.6.2, .string p.6.3, .string p.6.4, .string p.6.5, .string p.6.6, .bool p.6.7, .int .i64 p.7, .string p.8, .string p.9] := fun j u hj => by
 obtain ⟨b', off', e, _, hc⟩ := h.get hk
 injection e with e
 injection e with e1 e2 _
 subst e1 e2
 have hj15 : j < 15 := (List.getElem?_eq_some_iff.1 hj).1
 exact hc j u hj15 (by rw [hp]; exact hj)
theorem Row1.someP {w : World} {B : Nat} {A : Option Addr} {ps : List Dg.Pt} (h : Row1 ptL w B A ps) (h0 : 0 < ps.length) : ∃ b off, A = Option.some ⟨b, off, none⟩ := by
 obtain ⟨b, off, e, _⟩ := h.at_ h0
 exact ⟨b, off, e⟩
set_option maxRecDepth 100000 in
set_option maxHeartbeats 8000000 in
attribute [-go_sem] Instr.storeAt in
theorem all_ok (l : List Dg.It) (A : Option Addr) (n c : Nat) (hl : l.length = n) (hnc : n ≤ c) (hv : Dg.validC l = true) (ps : List Dg.Pt) (AP : Option Addr) (m cm : Nat) (hm : ps.length = m) (hm2 : m ≤ 1048576) (hps : ∀ p ∈ ps, PtW p ∧ p.kind ≠ 2) (l2 : List Dg.It) (hr : Dg.runT Dg.oneP l ps = some l2) (w : World) (hI : Its w w.heap.size A l) (hP : Row1 ptL w w.heap.size AP ps) :
  Calls Try.prog 8 #[.agg #[.slice A n c], .slice AP m cm] w fun e w' => ∃ v', e = .returned (.tuple #[.agg #[v'], .int .i64 (-1), .int .i64 0]) ∧ Own1 iLay 37 w' w.heap.size v' l2 ∧ Below w.heap.size w w' := by
 obtain ⟨r1, r2, hb, hs⟩ := iAlloc2 w (.cells #[.slice A n c] 24) (.cells #[.slice none 0 0] 24)
 have hS1 : AllS w.heap.size A n c l ((w.alloc (.cells #[.slice A n c] 24)).alloc (.cells #[.slice none 0 0] 24)) := ⟨r1, r2, hI.keep hb, fun h0 ad had => by
   obtain ⟨b, off, e, hlt, _⟩ := hI.at_ h0
   rw [had] at e
   cases e
   exact ⟨by show b ≠ _; omega, by show b ≠ _; omega⟩, hl, hnc, hv⟩
 have hP1 := hP.below hb
 have HP := hide hP1; have HM := hide hm; have HPS := hide hps; have HR := hide hr; have HV := hide hv; have HL := hide hl
 have hn := valid_len hv
 have hn2 : n ≤ 1048576 := by omega
 clear r1 r2 hs hI hP hP1 hl hm hps hr hv hn
 have c1 := iCells0 hS1.r1
 go_enter Try.func8, Try.ntmps8
 go_wp2_with fail
 generalize (w.alloc (.cells #[.slice A n c] 24)).alloc (.cells #[.slice none 0 0] 24) = w1 at *
 refine (Code.valid_of l A n c HL.out (valid_itw HV.out) hn2 w1 hS1.its true HV.out).mono ?_
 rintro e w2 ⟨rfl, hbq⟩
 have hS2 := hS1.below hbq
 have hb2 := bnext hb hbq
 have HP2 := hide (HP.out.below (hbq.mono hb.size))
 clear hbq hS1 hb c1 HP
 go_wp2
 go_loopw [17] (fun iv wr => ∃ (k : Nat) (A' : Option Addr) (n' c' : Nat) (lk : List Dg.It), k ≤ m ∧ iv = .int .i64 k ∧ Hid (AllS w.heap.size A' n' c' lk wr) ∧ Hid (Dg.runT Dg.oneP lk (ps.drop k) = some l2) ∧ Hid (Row1 ptL wr w.heap.size AP ps) ∧ Hid (Below w.heap.size w wr)) (fun iv _ => m - (intOf iv).toNat)
 case atStart => exact ⟨0, A, n, c, l, by omega, rfl, hide hS2, by rw [List.drop_zero]; exact HR, HP2, hide hb2⟩
 case round =>
  clear hS2 hb2 HP2
  obtain ⟨k, A', n', c', lk, hk, rfl, hS, hR, hPr, hB⟩ := hrel
  by_cases hlt : k < m
  ·have hkl : k < ps.length := by rw [HM.out]; exact hlt
   obtain ⟨bp, op, hAP⟩ := hPr.out.someP (by omega)
   subst hAP
   obtain ⟨p, hp⟩ : ∃ p, ps[k] = p := ⟨_, rfl⟩
   have hRP := hide (row_range hPr.out hkl p hp)
   obtain ⟨hpw, hp2⟩ := HPS.out p (by rw [← hp]; exact List.getElem_mem hkl)
   have hdr : ps.drop k = p :: ps.drop (k + 1) := by rw [List.drop_eq_getElem_cons hkl, hp]
   have hrun := hR.out
   rw [hdr, Dg.runT] at hrun
   cases ho : Dg.oneP lk p with
   | none => rw [ho] at hrun; cases hrun
   | some lk1 =>
   rw [ho] at hrun
   have hap := Dg.oneP_iff.1 ho
   have HRun := hide hrun
   have HPW := hide hpw; have HP2 := hide hp2; have HAP := hide hap
   have hv1 : Dg.validC lk1 = true := by
    obtain ⟨l9, e9, hE⟩ := Dg.apply_of_ok (Dg.ok_of_apply hap)
    rw [hap] at e9
    injection e9 with e9
    rw [e9]
    exact hE.valid
   have HV1 := hide hv1
   clear hdr hrun ho hap hpw hp2 hp hkl hv1 hR
   have hn' : n' ≤ 1048576 := by have := valid_len hS.out.val; have := hS.out.len; omega
   have hst := store_new (ty := 39) (T := 39) wr #[.int .i64 0, .string ⟨#[]⟩, .string ⟨#[]⟩, .string ⟨#[]⟩, .string ⟨#[]⟩, .int .i64 0, .string ⟨#[]⟩, .string ⟨#[]⟩, .string ⟨#[]⟩, .string ⟨#[]⟩, .string ⟨#[]⟩, .bool false, .int .i64 0, .string ⟨#[]⟩, .string ⟨#[]⟩] #[.int .i64 p.1, .string p.2, .string p.3, .string p.4, .string p.5, .int .i64 p.6.1, .string p.6.2, .string p.6.3, .string p.6.4, .string p.6.5, .string p.6.6, .bool p.6.7, .int .i64 p.7, .string p.8, .string p.9] (by kernel_rfl) rfl (all_oneCell_toArray (ptL.one p))
   have j0 : (0 : Int) ≤ (k : Int) := by omega
   have j1 : (k : Int) < (m : Int) := by omega
   go_upto_region 6 with (with_reducible refine wpList_load_mid rfl 39 (.tmp 20) rfl bp (op + k * 15) rfl _ _ hRP.out Try.underlying39 rfl (by kernel_rfl) ?_)
   clear hst hRP
   have hbn := Below.news (Below.refl wr.heap.size wr) (.cells #[.int .i64 p.1, .string p.2, .string p.3, .string p.4, .string p.5, .int .i64 p.6.1, .string p.6.2, .string p.6.3, .string p.6.4, .string p.6.5, .string p.6.6, .bool p.6.7, .int .i64 p.7, .string p.8, .string p.9] 39)
   have r8 := heap_alloc_new wr (.cells #[.int .i64 p.1, .string p.2, .string p.3, .string p.4, .string p.5, .int .i64 p.6.1, .string p.6.2, .string p.6.3, .string p.6.4, .string p.6.5, .string p.6.6, .bool p.6.7, .int .i64 p.7, .string p.8, .string p.9] 39)
   have hS3 := hS.out.below hbn
   have hB3 := hide (bnext hB.out hbn)
   have HP3 := hide (hPr.out.below (hbn.mono hB.out.size))
   have hsz3 := lt_of_block hS.out.r2
   clear hbn hS hB hPr
   obtain ⟨b8, hb8⟩ : ∃ b8, b8 = wr.heap.size := ⟨_, rfl⟩
   rw [← hb8] at r8 hsz3 ⊢
   have HB8 := hide hb8
   clear hb8
   generalize wr.alloc (.cells #[.int .i64 p.1, .string p.2, .string p.3, .string p.4, .string p.5, .int .i64 p.6.1, .string p.6.2, .string p.6.3, .string p.6.4, .string p.6.5, .string p.6.6, .bool p.6.7, .int .i64 p.7, .string p.8, .string p.9] 39) = w3 at *
   clear HB8
   have c1 := iCells0 hS3.r1
   have hR8 := hide (range_of r8 0 [.int .i64 p.1, .string p.2, .string p.3, .string p.4, .string p.5, .int .i64 p.6.1, .string p.6.2, .string p.6.3, .string p.6.4, .string p.6.5, .string p.6.6, .bool p.6.7, .int .i64 p.7, .string p.8, .string p.9] rfl)
   go_wp2_with (with_reducible refine wpList_load_mid rfl 39 (.tmp 8) rfl b8 0 rfl _ _ hR8.out Try.underlying39 rfl (by kernel_rfl) ?_)
   refine (apply_of lk A' n' c' hS3.len hn' hS3.cap (valid_itw hS3.val) p HPW.out HP2.out w3 hS3.its).mono ?_
   rintro e w4 ⟨v', rfl, hO, hbq⟩
   clear hR8 c1
   rw [HAP.out] at hO ⊢
   obtain ⟨A1, cc1, hv', hrow, hcap⟩ := hO.row
   obtain ⟨n1, hn1⟩ : ∃ n1, lk1.length = n1 := ⟨_, rfl⟩
   have hv'' : v' = .slice A1 n1 cc1 := by rw [hv', ← hn1]
   subst hv''
   have HN1 := hide hn1
   have hwh := own_where hO
   have HW1 := hide hwh
   have HI1 := hide hrow.its
   have HC1 := hide (show n1 ≤ cc1 by rw [← hn1]; exact hcap)
   clear hn1 hv' hrow hcap hwh hO HAP
   have hS4 := hS3.below hbq
   have hB4 := hide (bnext hB3.out hbq)
   have HP4 := hide (HP3.out.below (hbq.mono hB3.out.size))
   have hsz4 := hbq.size
   have hl8 := lt_of_block r8
   clear hbq hS3 hB3 HP3 r8
   have hst := store_new (ty := 24) (T := 24) w4 #[.slice none 0 0] #[.slice A1 n1 cc1] infoCode1 rfl (by simp [Value.oneCell'])
   go_upto_region 9 with (fail)
   clear hst
   have hbn := Below.news (Below.refl w4.heap.size w4) (.cells #[.slice A1 n1 cc1] 24)
   have r9 := heap_alloc_new w4 (.cells #[.slice A1 n1 cc1] 24)
   have hS5 := hS4.below hbn
   have hB5 := hide (bnext hB4.out hbn)
   have HP5 := hide (HP4.out.below (hbn.mono hB4.out.size))
   have HI5 := hide (HI1.out.keep hbn)
   clear hbn hS4 hB4 HP4 HI1
   obtain ⟨b9, hb9⟩ : ∃ b9, b9 = w4.heap.size := ⟨_, rfl⟩
   rw [← hb9] at r9 ⊢
   have HB9 := hide hb9
   clear hb9
   generalize w4.alloc (.cells #[.slice A1 n1 cc1] 24) = w5 at *
   have c9 := iCells0 r9
   have hst := store_part (ty := 24) w5 w.heap.size 0 #[.slice A' n' c'] (.agg #[.slice A1 n1 cc1]) #[.slice A1 n1 cc1] hS5.r1 infoCode1 (Nat.le_refl _) (one_code _ _ _) rfl
   have q1 := setRow_heap w5 w.heap.size _ #[.slice A1 n1 cc1] _ _ hS5.r1
   have q2 := (setRow_other w5 w.heap.size (w.heap.size + 1) #[.slice A1 n1 cc1] (by omega)).trans hS5.r2
   have hB6 := hide (below_setRow hB5.out (Nat.le_refl _) (g := w.heap.size) #[.slice A1 n1 cc1])
   have HP6 : Hid (Row1 ptL (w5.setRow w.heap.size #[.slice A1 n1 cc1]) w.heap.size (some ⟨bp, op, none⟩) ps) := hide (HP5.out.below (below_setRow (Below.refl w.heap.size w5) (Nat.le_refl _) #[.slice A1 n1 cc1]))
   have HI6 := its_off HI5.out (g := w.heap.size) (fun _ ad had => by have := (HW1.out ad had).1; omega) #[.slice A1 n1 cc1]
   have hsz6 : (w5.setRow w.heap.size #[.slice A1 n1 cc1]).heap.size = w5.heap.size := by simp [World.setRow]
   rw [← hsz6] at HI6
   have hS6 := hide (AllS.mk (b1 := w.heap.size) q1 q2 HI6 (fun _ ad had => by have := (HW1.out ad had).1; omega) HN1.out HC1.out HV1.out)
   clear hsz6 q1 q2 HI6 hS5 hB5 HP5 HI5
   go_wp2
   go_roundw
   case rel => exact ⟨k + 1, A1, n1, cc1, lk1, by omega, by go_num, hS6, HRun, HP6, hB6⟩
   case measure => simp [intOf]; omega
  ·obtain rfl : k = m := by omega
   have hlk : lk = l2 := by
    have h := hR.out
    rw [List.drop_of_length_le (by rw [HM.out]; exact Nat.le_refl _)] at h
    injection h
   subst hlk
   have hn' : n' ≤ 1048576 := by have := valid_len hS.out.val; have := hS.out.len; omega
   have c1 := iCells0 hS.out.r1
   go_wp2_with fail
   refine (cloneI_any A' n' c' lk wr hS.out.len (by omega) hS.out.its).mono ?_
   rintro e w3 ⟨v', rfl, hO, hbq⟩
   clear c1
   obtain ⟨A1, cc1, hv', _, _⟩ := hO.row
   rw [hS.out.len] at hv'
   subst hv'
   have hl2 := lt_of_block hS.out.r2
   have q2 := iNext hS.out.r2 hbq
   have hB3 := hide (bnext hB.out hbq)
   clear hbq
   have hst := store_part (ty := 24) w3 (w.heap.size + 1) 0 #[.slice none 0 0] (.agg #[.slice A1 n' cc1]) #[.slice A1 n' cc1] q2 infoCode1 (Nat.le_refl _) (one_code _ _ _) rfl
   have r25 := setRow_heap w3 (w.heap.size + 1) _ #[.slice A1 n' cc1] _ _ q2
   have hb8 := hide (below_setRow hB3.out (by omega) (g := w.heap.size + 1) #[.slice A1 n' cc1])
   have HO2 := hide (own_other hO (g := w.heap.size + 1) (fun e => by have := (World.ownsRow.lt hO _ e).1; omega) #[.slice A1 n' cc1])
   clear hO q2 hB3
   go_wp2
   refine bodyPost_ret (results_c9 Try.results8 _ _ (w.heap.size + 1) 24 #[.slice A1 n' cc1] (0, 0) _ rfl r25 Try.underlying24 (by kernel_rfl)) rfl ⟨_, rfl, own_weak HO2.out (by omega), hb8.out⟩
end Go.Proofs.Ytgmimhgeigbpkaa
/- slices.Backward over items. No conditions but those that each theorem states. -/
namespace Go.Proofs.Ytgmimhgeigbpkaa
open Go Go.RowKit Go.Sort
attribute [local go_sem] Oper.semAt_some
/-- What has come of a list, the last one first. -/
def backTo (l : List Dg.It) (k : Nat) : List (Nat × Dg.It) := (List.range k).map fun j => (l.length - 1 - j, l.getD (l.length - 1 - j) Dg.zeroI)
theorem backTo_succ (l : List Dg.It) (k : Nat) : backTo l (k + 1) = backTo l k ++ [(l.length - 1 - k, l.getD (l.length - 1 - k) Dg.zeroI)] := by rw [backTo, List.range_succ, List.map_append]; rfl
theorem backTo_len (l : List Dg.It) (k : Nat) : (backTo l k).length = k := by rw [backTo, List.length_map, List.length_range]
def encB (x : Nat × Dg.It) : Array Value := #[.int .i64 (x.1 : Int), .agg #[.int .i64 x.2.1, .string x.2.2, .string x.2.3, .string x.2.4, .string x.2.5, .string x.2.6, .bool x.2.7]]
set_option maxRecDepth 100000 in
set_option maxHeartbeats 2000000 in
theorem back1_in (n : Nat) (hn : 1 ≤ n) (r Bs n₀ : Nat) (A : Option Addr) (len cap : Nat) (l : List Dg.It) (hl : l.length = len) (hln : len ≤ 1048576) (hBs : Bs < n₀) (J Jx : List (Nat × Dg.It) → World → Prop)
  (hY : ∀ pre x W, J pre W → pre.length < len → YieldAt Fence.wide (n - 1) Try.prog r (encB x) W fun e W' =>
   (e = .returned (.bool true) ∧ J (pre ++ [x]) W' ∧ Below n₀ W W') ∨ (e = .returned (.bool false) ∧ Jx (pre ++ [x]) W'))
  (W : World) (hc : W.cell? ⟨Bs, 0, none⟩ = some (.slice A len cap)) (hI : Its W n₀ A l) (h0 : J [] W) :
  CallsIn Fence.wide n Try.prog 42 #[.func (.yield r) #[] #[], .pointer (some ⟨Bs, 0, none⟩)] W fun e W' => (∃ v, e = .returned v) ∧
   ((∃ ys, ys = backTo l len ∧ J ys W') ∨ (∃ pre, (∃ k, k ≤ len ∧ pre = backTo l k) ∧ Jx pre W')) := by
 refine callsIn_of_wp Try.func42 rfl trivial ?_ rfl
 simp only [Try.ntmps42, List.size_toArray, List.length_cons, List.length_nil, Nat.reduceAdd, Nat.reduceSub, Array.replicate_succ, Array.replicate_zero, List.push_toArray, List.append_toArray, List.nil_append, List.cons_append]
 have HL := hide hl; have HI := hide hI
 clear hl hI
 gi_wp2
 have hc1 := hc
 clear hc
 gi_loopw [3] (fun iv wr => ∃ (k : Nat) (z : Int), k ≤ len ∧ iv = .int .i64 z ∧ z = (len : Int) - 1 - (k : Int) ∧ J (backTo l k) wr ∧ Below n₀ W wr) (fun iv _ => (intOf iv + 1).toNat)
 case atStart => exact ⟨0, _, by omega, rfl, by omega, h0, Below.refl _ _⟩
 case round =>
  obtain ⟨k, z, hk, rfl, hz, hJ, hB⟩ := hrel
  have hcr : wr.cell? ⟨Bs, 0, none⟩ = some (.slice A len cap) := (hB.cell (p := ⟨Bs, 0, none⟩) hBs).trans hc1
  by_cases hlt : k < len
  ·obtain ⟨j, hj⟩ : ∃ j : Nat, j = len - 1 - k := ⟨_, rfl⟩
   obtain rfl : z = (j : Int) := by omega
   have hjl : j < len := by omega
   have hjl2 : j < l.length := by rw [HL.out]; exact hjl
   obtain ⟨b, off, hA⟩ := HI.out.some hjl2
   subst hA
   obtain ⟨x, hx⟩ : ∃ x, l[j] = x := ⟨_, rfl⟩
   have hbs := hide (show backTo l (k + 1) = backTo l k ++ [(j, x)] by
    rw [backTo_succ, HL.out, ← hj, List.getD_eq_getElem?_getD, List.getElem?_eq_getElem hjl2, Option.getD_some, hx])
   obtain ⟨_, p0, p1, p2, p3, p4, p5, p6⟩ := (HI.out.below hB).cells hjl2 x hx
   obtain ⟨fn, tmps, assign, body, hy, hR⟩ := hY _ (j, x) wr hJ (by rw [backTo_len]; exact hlt)
   dsimp only [encB] at hy
   have j0 : (0 : Int) ≤ (j : Int) := by omega
   have j1 : (j : Int) < (len : Int) := by omega
   have HZ := hide (And.intro hz hj)
   clear hz hj hx hjl2
   gi_wp2
   refine hR.mono ?_
   rintro e W3 (⟨rfl, hJ3, hk3⟩ | ⟨rfl, hJx3⟩)
   ·rw [← hbs.out] at hJ3
    have hz' := HZ.out
    clear HZ p0 p1 p2 p3 p4 p5 p6 hcr
    gi_wp2
    go_roundw
    case rel => exact ⟨k + 1, _, by omega, rfl, by omega, hJ3, hB.trans hk3⟩
    case measure => simp [intOf]; omega
   ·gi_wp2
    refine bodyPost_ret (results_none rfl _ _ _) rfl ?_
    exact ⟨⟨_, rfl⟩, .inr ⟨_, ⟨k + 1, by omega, hbs.out.symm⟩, hJx3⟩⟩
  ·obtain rfl : k = len := by omega
   obtain rfl : z = -1 := by omega
   clear hz
   gi_wp2
   go_end0
   exact ⟨⟨_, rfl⟩, .inl ⟨_, rfl, hJ⟩⟩
end Go.Proofs.Ytgmimhgeigbpkaa
/- neighbour of package bill. No conditions but those that each theorem states. -/
namespace Go.Proofs.Ytgmimhgeigbpkaa
open Go Go.RowKit Go.Sort
attribute [local go_sem] Oper.semAt_some
theorem backf_any (A : Option Addr) (n c : Nat) (w : World) :
  Calls Try.prog 24 #[.slice A n c] w fun e w' => e = .returned (.func (.func 42) #[] #[.pointer (some ⟨w.heap.size, 0, none⟩)]) ∧ w' = w.alloc (.cells #[.slice A n c] 22) := by
 have hmf : ∀ (fn : Fn) (first cap : Array Value) (w : World), (Instr.makeFunc fn first cap).run Try.prog w = .ok (.func fn first cap) w := fun _ _ _ _ => rfl
 go_enter Try.func24, Try.ntmps24
 go_wp2
 go_ret
 exact ⟨rfl, rfl⟩
theorem back_stops (n : Nat) (hn : 1 ≤ n) (Bs n₀ : Nat) (A : Option Addr) (len cap : Nat) (l : List Dg.It) (hl : l.length = len) (hln : len ≤ 1048576) (w : World) (hBs : Bs < n₀) (hn₀ : n₀ ≤ w.heap.size) (hc : w.cell? ⟨Bs, 0, none⟩ = some (.slice A len cap)) (hI : Its w n₀ A l) :
  SeqStopsK Fence.wide n Try.prog 42 #[.pointer (some ⟨Bs, 0, none⟩)] encB (Below n₀) (fun ys => ys = backTo l len) (fun pre => ∃ k, k ≤ len ∧ pre = backTo l k) len w := fun r J Jx W hW _ _ hY h0 =>
 back1_in n hn r Bs n₀ A len cap l hl hln hBs J Jx hY W ((hW.cell (p := ⟨Bs, 0, none⟩) (Nat.lt_of_lt_of_le hBs hn₀)).trans hc) (hI.below (hW.mono hn₀)) h0
theorem backTo_rev (l : List Dg.It) : ∀ k, k ≤ l.length → ((backTo l k).map Prod.snd).reverse = l.drop (l.length - k)
 | 0, _ => by rw [Nat.sub_zero, List.drop_length]; rfl
 | k + 1, hk => by
  have hlt : l.length - 1 - k < l.length := by omega
  rw [backTo_succ, List.map_append, List.reverse_append, backTo_rev l k (by omega)]
  have e : l.length - k = (l.length - 1 - k) + 1 := by omega
  rw [e, show l.length - (k + 1) = l.length - 1 - k by omega, List.drop_eq_getElem_cons hlt]
  simp [List.getD_eq_getElem?_getD, hlt]
theorem nb_none {l : List Dg.It} {q : ByteArray} (h : ∀ y ∈ backTo l l.length, y.2.parent ≠ q) : ((Dg.kids l q).getLast?).getD Dg.nil8 = Dg.nil8 := by
 have e := backTo_rev l l.length (Nat.le_refl _)
 rw [Nat.sub_self, List.drop_zero] at e
 rw [Dg.kids_none (fun x hx => by
  rw [← e, List.mem_reverse] at hx
  obtain ⟨y, hy, rfl⟩ := List.mem_map.1 hx
  exact h y hy)]
 rfl
theorem nb_some {l : List Dg.It} {q : ByteArray} {k : Nat} (hk : k ≤ l.length) {pre : List (Nat × Dg.It)} {y : Nat × Dg.It} (e : backTo l k = pre ++ [y]) (h : ∀ z ∈ pre, z.2.parent ≠ q) (hy : y.2.parent = q) : ((Dg.kids l q).getLast?).getD Dg.nil8 = y.2.id := by
 have e2 := backTo_rev l k hk
 rw [e, List.map_append, List.reverse_append] at e2
 have e3 : l = l.take (l.length - k) ++ ([y.2] ++ (pre.map Prod.snd).reverse) := by
  conv => lhs; rw [← List.take_append_drop (l.length - k) l]
  rw [← e2]
  rfl
 rw [e3, Dg.kids_append, Dg.kids_append, Dg.kids_none (l := (pre.map Prod.snd).reverse) (fun x hx => by
  rw [List.mem_reverse] at hx
  obtain ⟨z, hz, rfl⟩ := List.mem_map.1 hx
  exact h z hz), List.append_nil, Dg.kids_cons_yes [] hy]
 show ((Dg.kids (l.take (l.length - k)) q ++ [y.2.id]).getLast?).getD Dg.nil8 = _
 rw [List.getLast?_concat]
 rfl
/-- The loop of neighbour: none of what has come is of the division; or the last one is. -/
def NbI (W0 : World) (q : ByteArray) (pre : List (Nat × Dg.It)) (W : World) : Prop := (∀ y ∈ pre, y.2.parent ≠ q) ∧ Below W0.heap.size W0 W
def NbX (w : World) (b3 : Nat) (q : ByteArray) (c : Code) (pre : List (Nat × Dg.It)) (W : World) : Prop := c = .ret ∧ (∃ p y, pre = p ++ [y] ∧ (∀ z ∈ p, z.2.parent ≠ q) ∧ y.2.parent = q ∧ W.heap[b3]? = some (.cells #[.string y.2.id] 9 (0, 0))) ∧ Below w.heap.size w W
theorem NbI.own (W0 : World) (q : ByteArray) : OwnFrom W0.heap.size (NbI W0 q) := fun _ W W' row ⟨h1, h2⟩ hg hr => ⟨h1, ownFrom_below (β := Unit) (Nat.le_refl _) (Nat.le_refl _) () W W' row h2 hg hr⟩
theorem NbX.own (w : World) (b3 : Nat) (q : ByteArray) (B : Nat) (hB : w.heap.size ≤ B) (c : Code) : OwnFrom B (NbX w b3 q c) := fun pre W W' row ⟨h0, ⟨p, y, h1, h2, h3, h4⟩, h5⟩ hg hr => by
 refine ⟨h0, ⟨p, y, h1, h2, h3, ?_⟩, ownFrom_below (β := Unit) (Nat.le_refl _) hB () W W' row h5 hg hr⟩
 refine (hg.block b3 (lt_of_block h4) (fun e => ?_)).trans h4
 obtain ⟨_, o', h6, h7⟩ := hr b3 e.symm
 rw [h4] at h6
 cases h6
 cases h7
set_option maxRecDepth 100000 in
set_option maxHeartbeats 2000000 in
attribute [-go_sem] Instr.storeAt in
theorem neighbour_of (l : List Dg.It) (A : Option Addr) (n c : Nat) (hl : l.length = n) (hn : n ≤ 1048576) (i : Nat) (hi : i ≤ n) (hic : n ≤ c) (q : ByteArray) (w : World) (hI : Its w w.heap.size A l) (R : ByteArray) (hR : Dg.nbP l i q = R) :
  Calls Try.prog 18 #[.agg #[.slice A n c], .int .i64 i, .string q] w fun e w' => e = .returned (.string R) ∧ Below w.heap.size w w' := by
 obtain ⟨r1, r2, r3, hb, hs⟩ := iAlloc3 w (.cells #[.slice A n c] 24) (.cells #[.string q] 9) (.cells #[.string ⟨#[]⟩] 9)
 have c1 := iCells0 r1
 have HI := hide (hI.keep hb); have HL := hide hl; have HR := hide hR; have HS := hide hs
 clear hI hl hR hs
 have hic2 : i ≤ c := by omega
 have h0 : (0 : Int) ≤ (i : Int) := by omega
 have h1 : (i : Int) ≤ (c : Int) := by omega
 refine (callsIn_wide (n := 5)).1 ?_
 refine callsIn_of_wp_marks Try.func18 rfl trivial ?_ rfl
 simp only [Try.ntmps18, List.size_toArray, List.length_cons, List.length_nil, Nat.reduceAdd, Nat.reduceSub, Array.replicate_succ, Array.replicate_zero, List.push_toArray, List.append_toArray, List.nil_append, List.cons_append]
 refine wpIn_wide.2 ?_
 go_wp2_with (fail)
 generalize ((w.alloc (.cells #[.slice A n c] 24)).alloc (.cells #[.string q] 9)).alloc (.cells #[.string ⟨#[]⟩] 9) = W1 at *
 refine (backf_any A i c W1).mono ?_
 rintro e w' ⟨rfl, rfl⟩
 have hbn := Below.news (Below.refl W1.heap.size W1) (.cells #[.slice A i c] 22)
 have rB := heap_alloc_new W1 (.cells #[.slice A i c] 22)
 have r25 := iNext r2 hbn
 have r35 := iNext r3 hbn
 have HI5 := hide ((HI.out.below hbn).take i)
 have hb5 := bnext hb hbn
 have hs5 : W1.heap.size < (W1.alloc (.cells #[.slice A i c] 22)).heap.size := by simp
 have hs1 := HS.out
 have hl5 : (l.take i).length = i := by rw [List.length_take, HL.out]; omega
 clear c1 hbn r1 r2 r3 HS
 obtain ⟨bs, hbs⟩ : ∃ bs, bs = W1.heap.size := ⟨_, rfl⟩
 rw [← hbs] at rB hs5 hs1 HI5 ⊢
 clear hbs
 generalize W1.alloc (.cells #[.slice A i c] 22) = W5 at *
 have hcB := iCells0 rB
 have HL5 := hide hl5
 have HB5 := hide (And.intro hs1 (And.intro hs5 hb5))
 clear hl5 hb HI hs1
 go_wp2_with (fail)
 refine (wpIn_wide (n := 5)).1 ?_
 refine wpIn_rangeFunc_ownH (n := 5) rfl (by omega) (gf := 42) (lb := #[.pointer (some ⟨bs, 0, none⟩)]) rfl trivial (enters_of Try.func42 (by kernel_rfl) rfl)
  (back_stops 4 (by omega) bs W5.heap.size A i c (l.take i) HL5.out (by omega) W5 hs5 (Nat.le_refl _) hcB (HI5.out.more (by omega))) (fun h k => belowK_t h k) (belowK_b (Nat.le_refl _)) (Below.refl _ _) (fun _ => rfl)
  (NbI W5 q) (NbX w (w.heap.size + 1 + 1) q) (NbI.own W5 q) (NbX.own w _ q _ hb5.size) ⟨fun _ hy => (by cases hy), Below.refl _ _⟩ (fun x a' W => ∃ Bx, W5.heap.size ≤ Bx ∧ W.heap[Bx]? = some (.cells #[.int .i64 x.2.1, .string x.2.2, .string x.2.3, .string x.2.4, .string x.2.5, .string x.2.6, .bool x.2.7] 37 (0, 0)) ∧ a' = { tmps := #[.agg #[.slice A n c], .int .i64 i, .string q, .pointer (some ⟨w.heap.size, 0, none⟩), undef, .pointer (some ⟨w.heap.size + 1, 0, none⟩), .pointer (some ⟨w.heap.size + 1 + 1, 0, none⟩), undef, .pointer (some ⟨Bx, 0, none⟩), .pointer (some ⟨w.heap.size, 0, none⟩), .slice A n c, .int .i64 i, .slice A i c, .func (.func 42) #[] #[.pointer (some ⟨bs, 0, none⟩)], .int .i64 x.1, .agg #[.int .i64 x.2.1, .string x.2.2, .string x.2.3, .string x.2.4, .string x.2.5, .string x.2.6, .bool x.2.7], undef, undef, undef, undef, undef, undef], defers := [] }) ?hAx ?assign ?body ?done ?stop
 case assign =>
  rintro r pre ⟨ji, x⟩ W K ⟨hpre, hB⟩ hK
  simp only [encB]
  have hst := store_new (ty := 37) (T := 37) W #[.int .i64 0, .string ⟨#[]⟩, .string ⟨#[]⟩, .string ⟨#[]⟩, .string ⟨#[]⟩, .string ⟨#[]⟩, .bool false] #[.int .i64 x.1, .string x.2, .string x.3, .string x.4, .string x.5, .string x.6, .bool x.7] (by kernel_rfl) rfl (all_oneCell_toArray (iLay.one x))
  gi_wp2
  exact hK _ _ ((KeepsOthers.alloc _ _).from _) ((Below.refl _ W).alloc hB.size _) ⟨hpre, hB.alloc hB.size _⟩ ⟨W.heap.size, hB.size, heap_alloc_new _ _, rfl⟩
 case hAx =>
  rintro ⟨ji, x⟩ a' _ W W' row ⟨Bx, h1, h2, h3⟩ hg hr
  refine ⟨Bx, h1, ?_, h3⟩
  refine (hg.block Bx (lt_of_block h2) (fun e => ?_)).trans h2
  obtain ⟨_, o', h6, h7⟩ := hr Bx e.symm
  rw [h2] at h6
  cases h6
  cases h7
 case body =>
  rintro r pre ⟨ji, x⟩ a' W hl hr ⟨hpre, hB⟩ ⟨Bx, hBx, bX, rfl⟩ hlt
  have c2 := iCells0 (iNext r25 hB)
  have r3W := iNext r35 hB
  have hst := store_part (ty := 9) (T := 9) W (w.heap.size + 1 + 1) 0 #[.string ⟨#[]⟩] (.string x.id) #[.string x.id] r3W (by kernel_rfl) (Nat.le_refl _) (one_str _) rfl
  have hf := fun j => cell_of_row _ _ j _ _ _ bX
  have f2 : W.cell? ⟨Bx, 2, none⟩ = some (.string x.parent) := hf 2
  have f1 : W.cell? ⟨Bx, 1, none⟩ = some (.string x.id) := hf 1
  have HS3 := hide (And.intro hb5.size hB)
  have hrw := setRow_heap _ _ _ (#[.string x.id]) _ _ r3W
  have HRW := hide hrw
  clear hf hr bX hrw r3W hlt hl
  by_cases he : x.parent = q
  ·gi_wp2
   exact ⟨⟨by simp, fun k o hk ho _ => (setRow_other _ _ k _ (by have := hs5; have := HB5.out.1; omega)).trans ho⟩, rfl, ⟨pre, (ji, x), rfl, hpre, he, HRW.out⟩, below_setRow (hb5.trans (HS3.out.2.mono HS3.out.1)) (by omega) _⟩
  ·have hex : (x.parent.toList == q.toList) = false := by
    rw [beq_eq_false_iff_ne]
    intro h
    rw [Lib.toList_data, Lib.toList_data] at h
    exact he (ByteArray.ext (Array.ext' h))
   gi_wp2
   exact ⟨KeepsFrom.refl _ _, Below.refl _ _, fun y hy => (List.mem_append.1 hy).elim (hpre y) (fun h => by
    obtain rfl := List.mem_singleton.1 h
    exact he), HS3.out.2⟩
 case done =>
  rintro D xs W hD rfl ⟨hpre, hB⟩ hK
  have r3W := iNext r35 hB
  have hst := store_part (ty := 9) (T := 9) W (w.heap.size + 1 + 1) 0 #[.string ⟨#[]⟩] (.string ⟨#[]⟩) #[.string ⟨#[]⟩] r3W (by kernel_rfl) (Nat.le_refl _) (one_str _) rfl
  have hnil : R = ⟨#[]⟩ := by
   rw [← HR.out]
   refine nb_none (l := l.take i) ?_
   rw [HL5.out]
   exact hpre
  subst hnil
  have hBe := hide (below_setRow (hb5.trans (hB.mono hb5.size)) (show w.heap.size ≤ w.heap.size + 1 + 1 by omega) #[.string ⟨#[]⟩])
  have hK2 := (setRow_other W (w.heap.size + 1 + 1) D #[.string ⟨#[]⟩] (by have := hs5; have := HB5.out.1; omega)).trans hK
  have r6 := setRow_heap _ _ _ (#[.string ⟨#[]⟩]) _ _ r3W
  have hne : w.heap.size + 1 + 1 ≠ D := by have := hs5; have := HB5.out.1; omega
  have HNE := hide hne
  clear r3W hne
  gi_wp2
  go_wp2
  generalize W.setRow (w.heap.size + 1 + 1) #[.string ⟨#[]⟩] = W6 at *
  refine ⟨by simp, .inl ⟨_, _, rfl, run_takeDeferred hK2, ?_⟩⟩
  have g0 := iCells0 ((World.putObj_heap_other (o := .deferred none) HNE.out).trans r6)
  refine ⟨.string ⟨#[]⟩, ?_, rfl, hBe.out.trans (belowK_b (w := W5) hb5.size _ _ _ _ hD hK2 rfl rfl)⟩
  simp [results, Try.results18, go_sem, g0]
 case stop =>
  rintro D c pre W hD ⟨k, hk, rfl⟩ ⟨rfl, ⟨p, y, h1, h2, h3, h4⟩, h5⟩ hK
  have hnil : R = y.2.id := by
   rw [← HR.out]
   exact nb_some (l := l.take i) (by rw [HL5.out]; exact hk) h1 h2 h3
  subst hnil
  have hne : w.heap.size + 1 + 1 ≠ D := by have := hs5; have := HB5.out.1; omega
  have g0 := iCells0 ((World.putObj_heap_other (o := .deferred none) hne).trans h4)
  have hBe := hide h5
  clear h4
  gi_wp2
  refine ⟨by simp, .inl ⟨_, _, rfl, run_takeDeferred hK, ?_⟩⟩
  refine ⟨.string y.2.id, ?_, rfl, hBe.out.trans (belowK_b (w := W5) hb5.size _ _ _ _ hD hK rfl rfl)⟩
  simp [results, Try.results18, go_sem, g0]
end Go.Proofs.Ytgmimhgeigbpkaa
/- The drafter of package bill lays a patch in. No conditions but those that each theorem states. -/
namespace Go.Proofs.Ytgmimhgeigbpkaa
open Go Go.RowKit Go.Sort Go.Maps
/-- The drafter's variable: its code and its patches. -/
structure DrS (X : World) (D : Nat) (l : List Dg.It) (ps : List Dg.Pt) (A : Option Addr) (n c : Nat) (v : Value) : Prop where
 row : X.heap[D]? = some (.cells #[.slice A n c, v] 54 (0, 0))
 its : Its X X.heap.size A l
 len : l.length = n
 cap : n ≤ c
 own : Own1 ptL 39 X (D + 1) v ps
 sep : 0 < l.length → ∀ ad, A = some ad → ad.block ≠ D ∧ v.ownBlock ≠ some ad.block
theorem DrS.below {X X' : World} {D : Nat} {l : List Dg.It} {ps : List Dg.Pt} {A : Option Addr} {n c : Nat} {v : Value} (h : DrS X D l ps A n c v) (hb : Below X.heap.size X X') : DrS X' D l ps A n c v := ⟨iNext h.row hb, h.its.keep hb, h.len, h.cap, h.own.below hb, h.sep⟩
/-- What the drafter leaves as it lay. -/
structure DrF (D : Nat) (O : Option Nat) (X X' : World) : Prop where
 below : Below D X X'
 keep : ∀ k, k < X.heap.size → k ≠ D → some k ≠ O → X'.heap[k]? = X.heap[k]?
def DrN (n : Nat) (O O' : Option Nat) : Prop := O' = O ∨ ∃ b, O' = some b ∧ n ≤ b
theorem DrF.refl (D : Nat) (O : Option Nat) (X : World) : DrF D O X X := ⟨Below.refl _ _, fun _ _ _ _ => rfl⟩
theorem DrN.trans {n m : Nat} {O O' O'' : Option Nat} (h : DrN n O O') (k : DrN m O' O'') (hnm : n ≤ m) : DrN n O O'' := by
 rcases k with rfl | ⟨b, e, hb⟩
 ·exact h
 ·exact .inr ⟨b, e, by omega⟩
theorem DrF.trans {D : Nat} {O O' : Option Nat} {X Y Z : World} (h : DrF D O X Y) (k : DrF D O' Y Z) (hO : DrN X.heap.size O O') : DrF D O X Z :=
 ⟨h.below.trans k.below, fun i hi hD hn => by
  refine (k.keep i (Nat.lt_of_lt_of_le hi h.below.size) hD (fun e => ?_)).trans (h.keep i hi hD hn)
  rcases hO with rfl | ⟨b, e2, hb⟩
  ·exact hn e
  ·rw [e2] at e
   injection e with e
   omega⟩
theorem DrF.of_below {D : Nat} {O : Option Nat} {X Y : World} (h : Below X.heap.size X Y) (hD : D ≤ X.heap.size) : DrF D O X Y := ⟨h.mono hD, fun k hk _ _ => h.block k hk⟩
/-- The drafter behind something. -/
def DrQ (D : Nat) (O : Option Nat) (l : List Dg.It) (ps : List Dg.Pt) (X X' : World) : Prop := ∃ A n c v, DrS X' D l ps A n c v ∧ DrF D O X X' ∧ DrN X.heap.size O v.ownBlock
theorem its_block {w w' : World} {B B' : Nat} {A : Option Addr} {l : List Dg.It} (h : Its w B A l) (hB : B ≤ B') (hb : 0 < l.length → ∀ ad, A = some ad → w'.heap[ad.block]? = w.heap[ad.block]?) : Its w' B' A l := ⟨fun h0 => by
 obtain ⟨b, off, e, hlt, hc⟩ := h.at_ h0
 refine ⟨b, off, e, by omega, fun j x hx i u hu => ?_⟩
 have hk := hb h0 _ e
 exact (World.cell?_of_block (a := ⟨b, off + j * 7 + i, none⟩) hk).trans (hc j x hx i u hu)⟩
theorem one_sl (A : Option Addr) (n c : Nat) : ∀ u ∈ (Value.slice A n c).cells.toList, u.oneCell' = true := fun u hu => by
 obtain rfl : u = .slice A n c := List.mem_singleton.1 hu
 rfl
theorem infoPatches : (Try.prog.info? 28).map (·.size) = some 1 := by kernel_rfl
theorem row_pat (w : World) (p : Dg.Pt) (ty : TypeId) : Row1 ptL (w.alloc (.cells #[.int .i64 p.1, .string p.2, .string p.3, .string p.4, .string p.5, .int .i64 p.6.1, .string p.6.2, .string p.6.3, .string p.6.4, .string p.6.5, .string p.6.6, .bool p.6.7, .int .i64 p.7, .string p.8, .string p.9] ty)) (w.heap.size + 1) (some ⟨w.heap.size, 0, none⟩) [p] := ⟨fun _ => ⟨w.heap.size, 0, rfl, by omega, fun j u hu => by
 rw [cell_of_row _ _ _ _ _ _ (heap_alloc_new w _), ← Array.getElem?_toList]
 rw [Nat.zero_add]
 have e : ptL.flat [p] = [.int .i64 p.1, .string p.2, .string p.3, .string p.4, .string p.5, .int .i64 p.6.1, .string p.6.2, .string p.6.3, .string p.6.4, .string p.6.5, .string p.6.6, .bool p.6.7, .int .i64 p.7, .string p.8, .string p.9] := by rfl
 rw [e] at hu
 exact hu⟩⟩
set_option maxRecDepth 100000 in
set_option maxHeartbeats 8000000 in
attribute [-go_sem] Instr.storeAt in
theorem do_of (D : Nat) (l : List Dg.It) (ps : List Dg.Pt) (A : Option Addr) (n c : Nat) (v : Value) (p : Dg.Pt) (hp : PtW p) (h2 : p.kind ≠ 2) (hn : n ≤ 1048576) (hps : ps.length ≤ 1048576) (hw : ∀ x ∈ l, ItW x) (l' : List Dg.It) (ha : Dg.applyP l p = (l', 0)) (w : World) (hS : DrS w D l ps A n c v) :
  Calls Try.prog 21 #[.pointer (some ⟨D, 0, none⟩), .agg #[.int .i64 p.1, .string p.2, .string p.3, .string p.4, .string p.5, .int .i64 p.6.1, .string p.6.2, .string p.6.3, .string p.6.4, .string p.6.5, .string p.6.6, .bool p.6.7, .int .i64 p.7, .string p.8, .string p.9]] w fun e w' => e = .returned (.tuple #[]) ∧ DrQ D v.ownBlock l' (ps ++ [p]) w w' := by
 have hmx : Try.prog.follows .mixedOrders = true := by kernel_rfl
 have hDl := lt_of_block hS.row
 have hbn := Below.news (Below.refl w.heap.size w) (.cells #[.int .i64 p.1, .string p.2, .string p.3, .string p.4, .string p.5, .int .i64 p.6.1, .string p.6.2, .string p.6.3, .string p.6.4, .string p.6.5, .string p.6.6, .bool p.6.7, .int .i64 p.7, .string p.8, .string p.9] 39)
 have rP := heap_alloc_new w (.cells #[.int .i64 p.1, .string p.2, .string p.3, .string p.4, .string p.5, .int .i64 p.6.1, .string p.6.2, .string p.6.3, .string p.6.4, .string p.6.5, .string p.6.6, .bool p.6.7, .int .i64 p.7, .string p.8, .string p.9] 39)
 have hS1 := hS.below hbn
 have hAp (X : World) (h : DrS X D l ps A n c v) := apply_of l A n c hS.len hn hS.cap hw p hp h2 X h.its
 rw [ha] at hAp
 have HA := hide hAp
 have HPS := hide hps
 have HS0 := hide hS
 clear hp h2 hw ha hps hS hAp
 go_enter Try.func21, Try.ntmps21
 go_upto_region 1 with (fail)
 generalize w.alloc (.cells #[.int .i64 p.1, .string p.2, .string p.3, .string p.4, .string p.5, .int .i64 p.6.1, .string p.6.2, .string p.6.3, .string p.6.4, .string p.6.5, .string p.6.6, .bool p.6.7, .int .i64 p.7, .string p.8, .string p.9] 39) = w1 at *
 have hszw := hbn.size
 have hpw := lt_of_block rP
 obtain ⟨bp, hbp⟩ : ∃ bp, bp = w.heap.size := ⟨_, rfl⟩
 rw [← hbp] at rP hpw ⊢
 have HBP := hide hbp
 clear hbp
 have HB1 := hide hbn
 clear hbn
 have HSK := hide (fun X (hX : Below w1.heap.size w1 X) => hS1.below hX)
 have HRP := hide (fun X (hX : Below w1.heap.size w1 X) => iNext rP hX)
 go_cut [4, 5] from 7 to 15 (fun v4 v5 wx => v5 = .int .i64 0 ∧ ∃ b4 A' n' c', v4 = .pointer (some ⟨b4, 0, none⟩) ∧ l'.length = n' ∧ n' ≤ c' ∧ w1.heap.size ≤ b4 ∧ wx.heap[b4]? = some (.cells #[.slice A' n' c'] 24 (0, 0)) ∧ Below w1.heap.size w1 wx ∧ Own1 iLay 37 wx w1.heap.size (.slice A' n' c') l')
 case first =>
  refine wp_region_noPanic ?_
  refine wp_region_L (Below w1.heap.size w1) 11 hmx ?_
  have hH0 : (Below w1.heap.size w1) w1.drew := (Below.refl w1.heap.size w1).drew
  generalize w1.drew = u0 at *
  refine tkY 0 12 ?_ rfl ?_ hH0 ?_
  rotate_left
  ·intro wS hS; go_simp; (try with_reducible rfl)
  simp only [Act.put, pu1, pu2, pu3, pu4, pu5, pu6]
  refine tkY 1 12 ?_ rfl ?_ hH0 ?_
  rotate_left
  ·intro wS hS; go_simp; (try with_reducible rfl)
  simp only [Act.put, pu1, pu2, pu3, pu4, pu5, pu6]
  refine tkY 2 12 ?_ rfl ?_ hH0 ?_
  rotate_left
  ·intro wS hS; go_simp; (try with_reducible rfl)
  simp only [Act.put, pu1, pu2, pu3, pu4, pu5, pu6]
  refine tkY 3 12 ?_ rfl ?_ hH0 ?_
  rotate_left
  ·intro wS hS; have c0 : wS.cell? ⟨D, 0, none⟩ = some (.slice A n c) := cell_of_row _ _ 0 _ _ _ (HSK.out _ hS).row; go_simp; (try with_reducible rfl)
  simp only [Act.put, pu1, pu2, pu3, pu4, pu5, pu6]
  refine tkV 4 12 (.agg #[.int .i64 p.1, .string p.2, .string p.3, .string p.4, .string p.5, .int .i64 p.6.1, .string p.6.2, .string p.6.3, .string p.6.4, .string p.6.5, .string p.6.6, .bool p.6.7, .int .i64 p.7, .string p.8, .string p.9]) rfl (by exact yieldsIf_load_mid (by rfl) 39 (.tmp 3) rfl bp 0 rfl [.int .i64 p.1, .string p.2, .string p.3, .string p.4, .string p.5, .int .i64 p.6.1, .string p.6.2, .string p.6.3, .string p.6.4, .string p.6.5, .string p.6.6, .bool p.6.7, .int .i64 p.7, .string p.8, .string p.9] _ (fun X hX => range_of (HRP.out X hX) 0 [.int .i64 p.1, .string p.2, .string p.3, .string p.4, .string p.5, .int .i64 p.6.1, .string p.6.2, .string p.6.3, .string p.6.4, .string p.6.5, .string p.6.6, .bool p.6.7, .int .i64 p.7, .string p.8, .string p.9] rfl) Try.underlying39 rfl (by kernel_rfl)) hH0 ?_
  simp only [Act.put, pu1, pu2, pu3, pu4, pu5, pu6]
  refine wpAnyL_duo (i := 5) (j := 9) (by decide +kernel) (by rfl) (by rfl) (fun K hK => ?_) (fun K hK => ?_)
  ·rw [if_pos (by rfl)]
   go_simp
   refine (HA.out u0 (HSK.out _ hH0)).mono ?_
   rintro e u1 ⟨v', rfl, hO, hx1⟩
   have hH1 := hH0.trans (hx1.mono hH0.size)
   have hO := own_weak hO hH0.size
   obtain ⟨A', c', hv', _, hc'⟩ := hO.row
   obtain ⟨n', hn'⟩ : ∃ n', l'.length = n' := ⟨_, rfl⟩
   have hlt := World.ownsRow.lt hO
   rw [hn'] at hv' hc'
   subst hv'
   have HN := hide hn'
   clear hn'
   refine hK.out _ _ (Or.inr hH1) ?_
   clear hK K hx1
   try simp only [Act.put, pu1, pu2, pu3, pu4, pu5, pu6]
   refine tkY 6 12 ?_ rfl ?_ hH1 ?_
   rotate_left
   ·intro wS hS; go_simp; (try with_reducible rfl)
   simp only [Act.put, pu1, pu2, pu3, pu4, pu5, pu6]
   refine tkY 7 12 ?_ rfl ?_ hH1 ?_
   rotate_left
   ·intro wS hS; go_simp; (try with_reducible rfl)
   simp only [Act.put, pu1, pu2, pu3, pu4, pu5, pu6]
   refine tkY 8 12 ?_ rfl ?_ hH1 ?_
   rotate_left
   ·intro wS hS; go_simp; (try with_reducible rfl)
   simp only [Act.put, pu1, pu2, pu3, pu4, pu5, pu6]
   refine onY 9 (by rfl) fun K hK => ?_
   go_simp
   have hx2 := Below.news (Below.refl u1.heap.size u1) (.cells #[.slice none 0 0] 24)
   have hr2 := heap_alloc_new u1 (.cells #[.slice none 0 0] 24)
   have hg2 : w1.heap.size ≤ u1.heap.size := hH1.size
   have hH2 := hH1.trans (hx2.mono hH1.size)
   have hO := hO.below hx2
   refine hK.out _ _ (Or.inr hH2) ?_
   clear hK K hx2
   generalize u1.alloc (.cells #[.slice none 0 0] 24) = u2 at *
   generalize u1.heap.size = g2 at *
   try simp only [Act.put, pu1, pu2, pu3, pu4, pu5, pu6]
   refine onY 10 (by rfl) fun K hK => ?_
   have hst := store_part (ty := 24) u2 g2 0 #[.slice none 0 0] (.agg #[.slice A' n' c']) #[.slice A' n' c'] hr2 infoCode1 (Nat.le_refl _) (one_code _ _ _) rfl
   go_simp
   clear hst
   have hr3 := setRow_heap u2 g2 _ #[.slice A' n' c'] _ _ hr2
   have hH3 := below_setRow hH2 hg2 (g := g2) #[.slice A' n' c']
   have hO3 := own_other hO (g := g2) (fun e => by have := hlt _ e; omega) #[.slice A' n' c']
   refine hK.out _ _ (Or.inr hH3) ?_
   clear hK K 
   try simp only [Act.put, pu1, pu2, pu3, pu4, pu5, pu6]
   refine onY 11 (by rfl) fun K hK => ?_
   go_simp
   refine hK.out _ _ (Or.inr hH3) ?_
   clear hK K 
   try simp only [Act.put, pu1, pu2, pu3, pu4, pu5, pu6]
   refine dnY ?_
   go_wp2_with fail
   go_meet
   case rel => exact ⟨rfl, g2, A', n', c', rfl, HN.out, hc', hg2, hr3, hH3, hO3⟩
  ·rw [if_pos (by rfl)]
   go_simp
   have hx2 := Below.news (Below.refl u0.heap.size u0) (.cells #[.slice none 0 0] 24)
   have hr1 := heap_alloc_new u0 (.cells #[.slice none 0 0] 24)
   have hg2 : w1.heap.size ≤ u0.heap.size := hH0.size
   have hH1 := hH0.trans (hx2.mono hH0.size)
   
   refine hK.out _ _ (Or.inr hH1) ?_
   clear hK K hx2
   generalize u0.alloc (.cells #[.slice none 0 0] 24) = u1 at *
   generalize u0.heap.size = g2 at *
   try simp only [Act.put, pu1, pu2, pu3, pu4, pu5, pu6]
   refine onY 5 (by rfl) fun K hK => ?_
   have hg1 := lt_of_block hr1
   go_simp
   refine (HA.out u1 (HSK.out _ hH1)).mono ?_
   rintro e u2 ⟨v', rfl, hO, hx1⟩
   have hH2 := hH1.trans (hx1.mono hH1.size)
   have hlt0 := World.ownsRow.lt hO
   have hO := own_weak hO hH1.size
   obtain ⟨A', c', hv', _, hc'⟩ := hO.row
   obtain ⟨n', hn'⟩ : ∃ n', l'.length = n' := ⟨_, rfl⟩
   have hlt := World.ownsRow.lt hO
   rw [hn'] at hv' hc'
   subst hv'
   have HN := hide hn'
   clear hn'
   have hr2 := iNext hr1 hx1
   refine hK.out _ _ (Or.inr hH2) ?_
   clear hK K hx1
   try simp only [Act.put, pu1, pu2, pu3, pu4, pu5, pu6]
   refine tkY 6 12 ?_ rfl ?_ hH2 ?_
   rotate_left
   ·intro wS hS; go_simp; (try with_reducible rfl)
   simp only [Act.put, pu1, pu2, pu3, pu4, pu5, pu6]
   refine tkY 7 12 ?_ rfl ?_ hH2 ?_
   rotate_left
   ·intro wS hS; go_simp; (try with_reducible rfl)
   simp only [Act.put, pu1, pu2, pu3, pu4, pu5, pu6]
   refine tkY 8 12 ?_ rfl ?_ hH2 ?_
   rotate_left
   ·intro wS hS; go_simp; (try with_reducible rfl)
   simp only [Act.put, pu1, pu2, pu3, pu4, pu5, pu6]
   refine onY 10 (by rfl) fun K hK => ?_
   have hst := store_part (ty := 24) u2 g2 0 #[.slice none 0 0] (.agg #[.slice A' n' c']) #[.slice A' n' c'] hr2 infoCode1 (Nat.le_refl _) (one_code _ _ _) rfl
   go_simp
   clear hst
   have hr3 := setRow_heap u2 g2 _ #[.slice A' n' c'] _ _ hr2
   have hH3 := below_setRow hH2 hg2 (g := g2) #[.slice A' n' c']
   have hO3 := own_other hO (g := g2) (fun e => by have := hlt _ e; have := hlt0 _ e; omega) #[.slice A' n' c']
   refine hK.out _ _ (Or.inr hH3) ?_
   clear hK K 
   try simp only [Act.put, pu1, pu2, pu3, pu4, pu5, pu6]
   refine onY 11 (by rfl) fun K hK => ?_
   go_simp
   refine hK.out _ _ (Or.inr hH3) ?_
   clear hK K 
   try simp only [Act.put, pu1, pu2, pu3, pu4, pu5, pu6]
   refine dnY ?_
   go_wp2_with fail
   go_meet
   case rel => exact ⟨rfl, g2, A', n', c', rfl, HN.out, hc', hg2, hr3, hH3, hO3⟩
 case rest =>
  obtain ⟨rfl, b4, A', n', c', rfl, hn', hc', hb4, r4, hbw, hO⟩ := hcut
  rename World => wq
  have hS2 := HSK.out _ hbw
  have rP2 := HRP.out _ hbw
  have c4 := iCells0 r4
  have hDv : v.ownBlock ≠ some D := fun e => by have := (World.ownsRow.lt hS2.own _ e).1; omega
  have hDA : ∀ k, (Value.slice A' n' c').ownBlock = some k → w1.heap.size ≤ k ∧ k < wq.heap.size := World.ownsRow.lt hO
  have hvv : ∀ k, v.ownBlock = some k → D + 1 ≤ k ∧ k < w.heap.size := World.ownsRow.lt HS0.out.own
  have hst := store_part (ty := 24) wq D 0 #[.slice A n c, v] (.agg #[.slice A' n' c']) #[.slice A' n' c', v] hS2.row infoCode1 (show 0 + 1 ≤ 2 by omega) (one_code _ _ _) rfl
  have rD3 := setRow_heap wq D _ #[.slice A' n' c', v] _ _ hS2.row
  have rP3 := (setRow_other wq D bp #[.slice A' n' c', v] (by have := HBP.out; omega)).trans rP2
  have hO3 := own_other hO (g := D) (fun e => by have := hDA _ e; omega) #[.slice A' n' c', v]
  have hV3 := own_other hS2.own (g := D) hDv #[.slice A' n' c', v]
  have hb3 := below_setRow (g := D) ((HB1.out.mono (show D ≤ w.heap.size by omega)).trans (hbw.mono (by omega))) (Nat.le_refl D) #[.slice A' n' c', v]
  have hk3 : ∀ k, k < w.heap.size → k ≠ D → (wq.setRow D #[.slice A' n' c', v]).heap[k]? = w.heap[k]? := fun k hk hD => (setRow_other wq D k _ hD).trans ((hbw.block k (by omega)).trans (HB1.out.block k hk))
  have hz3 : (wq.setRow D #[.slice A' n' c', v]).heap.size = wq.heap.size := by simp
  have HN := hide hn'
  have hF3 : DrF D v.ownBlock w (wq.setRow D #[.slice A' n' c', v]) := ⟨hb3, fun k hk hD _ => hk3 k hk hD⟩
  have HZ := hide hz3
  have HVV := hide hvv
  have HDA := hide hDA
  clear r4 rP2 hn' hO hS2 hbw hb3 hk3 hz3 hvv hDA hDv HRP HSK HB1 rP hS1
  go_upto_region 4 with (fail)
  clear hst c4
  generalize wq.setRow D #[.slice A' n' c', v] = w3 at *
  have hD3 := lt_of_block rD3
  have hP3 := lt_of_block rP3
  refine wp_region_noPanic ?_
  have hbd : Below w3.heap.size w3 w3.drew := (Below.refl w3.heap.size w3).drew
  refine wp_region_L (fun X => X.heap[D]? = some (.cells #[.slice A' n' c', v] 54 (0, 0)) ∧ X.heap[bp]? = some (.cells #[.int .i64 p.1, .string p.2, .string p.3, .string p.4, .string p.5, .int .i64 p.6.1, .string p.6.2, .string p.6.3, .string p.6.4, .string p.6.5, .string p.6.6, .bool p.6.7, .int .i64 p.7, .string p.8, .string p.9] 39 (0, 0))) 10 hmx ?_
  have hH0 : (fun X : World => X.heap[D]? = some (.cells #[.slice A' n' c', v] 54 (0, 0)) ∧ X.heap[bp]? = some (.cells #[.int .i64 p.1, .string p.2, .string p.3, .string p.4, .string p.5, .int .i64 p.6.1, .string p.6.2, .string p.6.3, .string p.6.4, .string p.6.5, .string p.6.6, .bool p.6.7, .int .i64 p.7, .string p.8, .string p.9] 39 (0, 0))) w3.drew := ⟨iNext rD3 hbd, iNext rP3 hbd⟩
  have hV4 := hV3.below hbd
  have hO4 := hO3.below hbd
  have hF4 := hF3.trans (DrF.of_below (O := v.ownBlock) hbd (Nat.le_of_lt hD3)) (.inl rfl)
  have hz4 := hbd.size
  clear rD3 rP3 hV3 hO3 hF3
  generalize w3.drew = u0 at *
  refine tkY 0 11 ?_ rfl ?_ hH0 ?_
  rotate_left
  ·intro wS hS; go_simp; (try with_reducible rfl)
  simp only [Act.put, pu1, pu2, pu3, pu4, pu5, pu6]
  refine tkY 1 11 ?_ rfl ?_ hH0 ?_
  rotate_left
  ·intro wS hS; go_simp; (try with_reducible rfl)
  simp only [Act.put, pu1, pu2, pu3, pu4, pu5, pu6]
  refine tkY 2 11 ?_ rfl ?_ hH0 ?_
  rotate_left
  ·intro wS hS; go_simp; (try with_reducible rfl)
  simp only [Act.put, pu1, pu2, pu3, pu4, pu5, pu6]
  refine tkY 3 11 ?_ rfl ?_ hH0 ?_
  rotate_left
  ·intro wS hS; go_simp; (try with_reducible rfl)
  simp only [Act.put, pu1, pu2, pu3, pu4, pu5, pu6]
  refine tkY 4 11 ?_ rfl ?_ hH0 ?_
  rotate_left
  ·intro wS hS; have c1 : wS.cell? ⟨D, 1, none⟩ = some v := cell_of_row _ _ 1 _ _ _ hS.1; go_simp; (try with_reducible rfl)
  simp only [Act.put, pu1, pu2, pu3, pu4, pu5, pu6]
  refine tkV 5 11 (.agg #[.int .i64 p.1, .string p.2, .string p.3, .string p.4, .string p.5, .int .i64 p.6.1, .string p.6.2, .string p.6.3, .string p.6.4, .string p.6.5, .string p.6.6, .bool p.6.7, .int .i64 p.7, .string p.8, .string p.9]) rfl (by exact yieldsIf_load_mid (by rfl) 39 (.tmp 3) rfl bp 0 rfl [.int .i64 p.1, .string p.2, .string p.3, .string p.4, .string p.5, .int .i64 p.6.1, .string p.6.2, .string p.6.3, .string p.6.4, .string p.6.5, .string p.6.6, .bool p.6.7, .int .i64 p.7, .string p.8, .string p.9] _ (fun X hX => range_of hX.2 0 [.int .i64 p.1, .string p.2, .string p.3, .string p.4, .string p.5, .int .i64 p.6.1, .string p.6.2, .string p.6.3, .string p.6.4, .string p.6.5, .string p.6.6, .bool p.6.7, .int .i64 p.7, .string p.8, .string p.9] rfl) Try.underlying39 rfl (by kernel_rfl)) hH0 ?_
  simp only [Act.put, pu1, pu2, pu3, pu4, pu5, pu6]
  refine onY 6 (by rfl) fun K hK => ?_
  go_simp
  have hbn := Below.news (Below.refl u0.heap.size u0) (.cells #[.int .i64 p.1, .string p.2, .string p.3, .string p.4, .string p.5, .int .i64 p.6.1, .string p.6.2, .string p.6.3, .string p.6.4, .string p.6.5, .string p.6.6, .bool p.6.7, .int .i64 p.7, .string p.8, .string p.9] 39)
  have hr := row_pat u0 p 39
  have hV5 := hV4.below hbn
  have hO5 := hO4.below hbn
  have hF5 := hF4.trans (DrF.of_below (O := v.ownBlock) hbn (by omega)) (.inl rfl)
  have hz5 := hbn.size
  have hH1 : (fun X : World => X.heap[D]? = some (.cells #[.slice A' n' c', v] 54 (0, 0)) ∧ X.heap[bp]? = some (.cells #[.int .i64 p.1, .string p.2, .string p.3, .string p.4, .string p.5, .int .i64 p.6.1, .string p.6.2, .string p.6.3, .string p.6.4, .string p.6.5, .string p.6.6, .bool p.6.7, .int .i64 p.7, .string p.8, .string p.9] 39 (0, 0))) (u0.alloc (.cells #[.int .i64 p.1, .string p.2, .string p.3, .string p.4, .string p.5, .int .i64 p.6.1, .string p.6.2, .string p.6.3, .string p.6.4, .string p.6.5, .string p.6.6, .bool p.6.7, .int .i64 p.7, .string p.8, .string p.9] 39)) := ⟨iNext hH0.1 hbn, iNext hH0.2 hbn⟩
  refine hK.out _ _ (Or.inr hH1) ?_
  clear hK K hH0 hV4 hO4 hF4 hbn
  try simp only [Act.put, pu1, pu2, pu3, pu4, pu5, pu6]
  generalize u0.alloc (.cells #[.int .i64 p.1, .string p.2, .string p.3, .string p.4, .string p.5, .int .i64 p.6.1, .string p.6.2, .string p.6.3, .string p.6.4, .string p.6.5, .string p.6.6, .bool p.6.7, .int .i64 p.7, .string p.8, .string p.9] 39) = u1 at *
  refine onY 7 (by rfl) fun K hK => ?_
  refine wp_app1 (L := ptL) (.tmp 25) (.tmp 27) 28 39 _ 208 (by rfl) Try.underlying28 patchInfo rfl (by decide) (D + 1) (u0.heap.size + 1) v ps [p] (by rfl) hV5 (some ⟨u0.heap.size, 0, none⟩) 1 1 (by rfl) rfl hr (by have := HPS.out; omega) (by omega) (by omega) ?_
  intro v9 u9 hV9 hb9 hg9 hwh
  have hDu : D < u1.heap.size := by omega
  have hwu := hF5.below.size
  have hH9 : (fun X : World => X.heap[D]? = some (.cells #[.slice A' n' c', v] 54 (0, 0)) ∧ X.heap[bp]? = some (.cells #[.int .i64 p.1, .string p.2, .string p.3, .string p.4, .string p.5, .int .i64 p.6.1, .string p.6.2, .string p.6.3, .string p.6.4, .string p.6.5, .string p.6.6, .bool p.6.7, .int .i64 p.7, .string p.8, .string p.9] 39 (0, 0))) u9 := ⟨(hg9.block D hDu (fun e => by have := (HVV.out _ e.symm).1; omega)).trans hH1.1, (hg9.block bp (by omega) (fun e => by have := (HVV.out _ e.symm).2; have := HBP.out; omega)).trans hH1.2⟩
  have hA9 := own_where hO5
  have hr2 : Row1 iLay u1 u1.heap.size A' l' := by
   obtain ⟨A2, c2, e2, h, _⟩ := hO5.row
   injection e2 with e2 _ _
   rw [e2]
   exact h
  have hI9 : Its u9 u9.heap.size A' l' := its_block hr2.its hg9.size (fun _ ad e => hg9.block ad.block (hA9 ad e).2 (fun e' => by have := (HVV.out _ e'.symm).2; have := (hA9 ad e).1; omega))
  have hF9 := hF5.trans (DrF.mk (O := v.ownBlock) (hb9.mono (show D ≤ D + 1 by omega)) (fun k hk _ hn => hg9.block k hk hn)) (.inl rfl)
  obtain ⟨A9, c9, e9, _, _⟩ := hV9.row
  obtain ⟨m9, hm9⟩ : ∃ m9, (ps ++ [p]).length = m9 := ⟨_, rfl⟩
  rw [hm9] at e9
  clear hm9
  subst e9
  refine hK.out _ _ (Or.inr hH9) ?_
  clear hK K hr2 hr hV5 hO5 hH1 hF5
  try simp only [Act.put, pu1, pu2, pu3, pu4, pu5, pu6]
  refine onY 8 (by rfl) fun K hK => ?_
  go_simp
  refine hK.out _ _ (Or.inr hH9) ?_
  clear hK K 
  try simp only [Act.put, pu1, pu2, pu3, pu4, pu5, pu6]
  refine onY 9 (by rfl) fun K hK => ?_
  go_simp
  refine hK.out _ _ (Or.inr hH9) ?_
  clear hK K 
  try simp only [Act.put, pu1, pu2, pu3, pu4, pu5, pu6]
  refine onY 10 (by rfl) fun K hK => ?_
  have hst := store_part (ty := 28) u9 D 1 #[.slice A' n' c', v] (.slice A9 m9 c9) #[.slice A' n' c', .slice A9 m9 c9] hH9.1 infoPatches (show 1 + 1 ≤ 2 by omega) (one_sl _ _ _) rfl
  go_simp
  clear hst
  refine hK.out _ _ (Or.inl (by rfl)) ?_
  clear hK K
  try simp only [Act.put, pu1, pu2, pu3, pu4, pu5, pu6]
  refine dnY ?_
  have hrF := setRow_heap u9 D _ #[.slice A' n' c', .slice A9 m9 c9] _ _ hH9.1
  have hIF := (its_off hI9 (g := D) (fun _ ad e => by have := (hA9 ad e).1; omega) #[.slice A' n' c', .slice A9 m9 c9]).more (B' := (u9.setRow D #[.slice A' n' c', .slice A9 m9 c9]).heap.size) (by simp)
  have hVF := own_other hV9 (g := D) (fun e => by have := (World.ownsRow.lt hV9 _ e).1; omega) #[.slice A' n' c', .slice A9 m9 c9]
  have hFF : DrF D v.ownBlock w (u9.setRow D #[.slice A' n' c', .slice A9 m9 c9]) := ⟨below_setRow hF9.below (Nat.le_refl D) _, fun k hk hD hn => (setRow_other _ _ k _ hD).trans (hF9.keep k hk hD hn)⟩
  have hNN : DrN w.heap.size v.ownBlock (Value.slice A9 m9 c9).ownBlock := hwh.elim .inl (fun e => .inr ⟨_, e, by omega⟩)
  have hsep : 0 < l'.length → ∀ ad, A' = some ad → ad.block ≠ D ∧ (Value.slice A9 m9 c9).ownBlock ≠ some ad.block := fun _ ad e => ⟨by have := (hA9 ad e).1; omega, fun e' => by
   have h1 := hA9 ad e
   rcases hwh with h | h
   ·rw [h] at e'
    have := (HVV.out _ e').2
    omega
   ·rw [h] at e'
    injection e' with e'
    omega⟩
  generalize u9.setRow D #[.slice A' n' c', .slice A9 m9 c9] = uF at *
  go_wp2
  go_end0
  exact ⟨rfl, A', n', c', _, ⟨hrF, hIF, HN.out, hc', hVF, hsep⟩, hFF, hNN⟩
end Go.Proofs.Ytgmimhgeigbpkaa
/- Groups of indices by a search in depth, in plain Lean. No program in sight. -/
namespace Go.Proofs.Ytgmimhgeigbpkaa.Dg
open Go
/-- What a visit from index i on has added, where the neighbours of i below kk were looked at. -/
structure Vis (C : Nat → Nat → Bool) (n : Nat) (S S' : List Bool) (add : List Nat) (i kk : Nat) : Prop where
 len : S.length = n
 len' : S'.length = n
 nodup : add.Nodup
 un : ∀ a ∈ add, a < n ∧ S.getD a false = false
 mem : ∀ k, k < n → S'.getD k false = (S.getD k false || decide (k ∈ add))
 has : i ∈ add
 closed : ∀ a ∈ add, a ≠ i → ∀ k, k < n → C a k = false → S'.getD k false = true
 closedi : ∀ k, k < kk → k < n → C i k = false → S'.getD k false = true
 link : ∀ a ∈ add, a ≠ i → ∃ b ∈ add, C b a = false
theorem getD_set (S : List Bool) (i k : Nat) (hi : i < S.length) (b : Bool) : (S.set i b).getD k false = if k = i then b else S.getD k false := by
 rw [List.getD_eq_getElem?_getD, List.getD_eq_getElem?_getD, List.getElem?_set]
 by_cases h : i = k
 ·subst h
  rw [if_pos rfl, if_pos hi, if_pos rfl]
  rfl
 ·rw [if_neg h, if_neg (fun e => h e.symm)]
theorem Vis.start {C : Nat → Nat → Bool} {n : Nat} {S : List Bool} {i : Nat} (hl : S.length = n) (hi : i < n) (hs : S.getD i false = false) : Vis C n S (S.set i true) [i] i 0 where
 len := hl
 len' := by rw [List.length_set]; exact hl
 nodup := by simp
 un := fun a ha => by rw [List.mem_singleton.1 ha]; exact ⟨hi, hs⟩
 mem := fun k _ => by
  rw [getD_set S i k (by omega)]
  by_cases h : k = i
  ·subst h; simp
  ·rw [if_neg h, decide_eq_false (by simpa using h), Bool.or_false]
 has := List.mem_singleton.2 rfl
 closed := fun a ha hne => absurd (List.mem_singleton.1 ha) hne
 closedi := fun k hk => absurd hk (by omega)
 link := fun a ha hne => absurd (List.mem_singleton.1 ha) hne
theorem Vis.mono {C : Nat → Nat → Bool} {n : Nat} {S S' : List Bool} {add : List Nat} {i kk : Nat} (h : Vis C n S S' add i kk) {k : Nat} (hk : k < n) (hs : S.getD k false = true) : S'.getD k false = true := by
 rw [h.mem k hk, hs, Bool.true_or]
/-- A neighbour that is seen, or none. -/
theorem Vis.skip {C : Nat → Nat → Bool} {n : Nat} {S S' : List Bool} {add : List Nat} {i kk : Nat} (h : Vis C n S S' add i kk) (hk : S'.getD kk false = true ∨ C i kk = true) : Vis C n S S' add i (kk + 1) :=
 ⟨h.len, h.len', h.nodup, h.un, h.mem, h.has, h.closed, fun k hk' hn hc => by
  by_cases e : k = kk
  ·subst e
   rcases hk with g | g
   ·exact g
   ·rw [g] at hc; cases hc
  ·exact h.closedi k (by omega) hn hc, h.link⟩
/-- A neighbour that is visited. -/
theorem Vis.visit {C : Nat → Nat → Bool} {n : Nat} {S S' S2 : List Bool} {add add2 : List Nat} {i kk : Nat} (h : Vis C n S S' add i kk) (hc : C i kk = false) (h2 : Vis C n S' S2 add2 kk n) : Vis C n S S2 (add ++ add2) i (kk + 1) where
 len := h.len
 len' := h2.len'
 nodup := List.nodup_append.2 ⟨h.nodup, h2.nodup, fun a ha b hb e => by
  subst e
  have h1 := h2.un a hb
  have h3 := h.mem a h1.1
  rw [h1.2, decide_eq_true ha, Bool.or_true] at h3
  cases h3⟩
 un := fun a ha => by
  rcases List.mem_append.1 ha with g | g
  ·exact h.un a g
  ·have h1 := h2.un a g
   have h3 := h.mem a h1.1
   rw [h1.2] at h3
   refine ⟨h1.1, ?_⟩
   cases hs : S.getD a false with
   | false => rfl
   | true => rw [hs, Bool.true_or] at h3; cases h3
 mem := fun k hk => by
  rw [h2.mem k hk, h.mem k hk, Bool.or_assoc]
  congr 1
  by_cases h3 : k ∈ add
  ·rw [decide_eq_true h3, decide_eq_true (List.mem_append.2 (Or.inl h3)), Bool.true_or]
  ·rw [decide_eq_false h3, Bool.false_or]
   exact decide_eq_decide.2 ⟨fun g => List.mem_append.2 (Or.inr g), fun g => (List.mem_append.1 g).resolve_left h3⟩
 has := List.mem_append.2 (Or.inl h.has)
 closed := fun a ha hne k hk hca => by
  rcases List.mem_append.1 ha with g | g
  ·exact h2.mono hk (h.closed a g hne k hk hca)
  ·by_cases e : a = kk
   ·subst e; exact h2.closedi k hk hk hca
   ·exact h2.closed a g e k hk hca
 closedi := fun k hk hn hci => by
  by_cases e : k = kk
  ·subst e
   have := h2.mem k hn
   rw [decide_eq_true h2.has, Bool.or_true] at this
   exact this
  ·exact h2.mono hn (h.closedi k (by omega) hn hci)
 link := fun a ha hne => by
  rcases List.mem_append.1 ha with g | g
  ·obtain ⟨b, hb, hcb⟩ := h.link a g hne
   exact ⟨b, List.mem_append.2 (Or.inl hb), hcb⟩
  ·by_cases e : a = kk
   ·subst e; exact ⟨i, List.mem_append.2 (Or.inl h.has), hc⟩
   ·obtain ⟨b, hb, hcb⟩ := h2.link a g e
    exact ⟨b, List.mem_append.2 (Or.inr hb), hcb⟩
/-- How many are not seen yet. -/
def unseen (S : List Bool) : Nat := S.countP fun b => !b
theorem unseen_set {S : List Bool} : ∀ {i : Nat}, i < S.length → S.getD i false = false → unseen (S.set i true) < unseen S := by
 induction S with
 | nil => intro i h; simp at h
 | cons b S ih =>
  intro i h hs
  cases i with
  | zero =>
   have hb : b = false := by simpa using hs
   subst hb
   show List.countP _ (true :: S) < List.countP _ (false :: S)
   rw [List.countP_cons, List.countP_cons]
   simp
  | succ i =>
   have := ih (i := i) (by simpa using h) (by simpa using hs)
   show List.countP _ (b :: S.set i true) < List.countP _ (b :: S)
   rw [List.countP_cons, List.countP_cons]
   unfold unseen at this
   omega
theorem unseen_le {S : List Bool} : ∀ {S' : List Bool}, S'.length = S.length → (∀ k, k < S.length → S.getD k false = true → S'.getD k false = true) → unseen S' ≤ unseen S := by
 induction S with
 | nil => intro S' h _; rw [List.length_eq_zero_iff.1 h]; exact Nat.le_refl _
 | cons b S ih =>
  intro S' h hm
  match S', h with
  | c :: T, h =>
   have h1 := ih (S' := T) (by simpa using h) fun k hk hs => by
    have := hm (k + 1) (by simp; omega) (by simpa using hs)
    simpa using this
   have h0 := hm 0 (by simp)
   unfold unseen at *
   rw [List.countP_cons, List.countP_cons]
   cases b with
   | false => simp; split <;> omega
   | true =>
    have : c = true := by simpa using h0
    subst this
    simpa using h1
theorem Vis.unseen {C : Nat → Nat → Bool} {n : Nat} {S S' : List Bool} {add : List Nat} {i kk : Nat} (h : Vis C n S S' add i kk) : Dg.unseen S' < Dg.unseen S := by
 have hi := h.un i h.has
 have h1 := unseen_set (S := S) (i := i) (by rw [h.len]; exact hi.1) hi.2
 refine Nat.lt_of_le_of_lt (unseen_le (by rw [List.length_set, h.len', h.len]) fun k hk hs => ?_) h1
 rw [List.length_set, h.len] at hk
 rw [getD_set S i k (by rw [h.len]; exact hi.1)] at hs
 rw [h.mem k hk]
 by_cases e : k = i
 ·subst e; rw [decide_eq_true h.has, Bool.or_true]
 ·rw [if_neg e] at hs; rw [hs, Bool.true_or]
theorem Vis.small {C : Nat → Nat → Bool} {n : Nat} {S S' : List Bool} {add : List Nat} {i kk : Nat} (h : Vis C n S S' add i kk) : add.length ≤ n := by
 have := nodup_len add (List.range n) h.nodup fun a ha => List.mem_range.2 (h.un a ha).1
 rwa [List.length_range] at this
end Go.Proofs.Ytgmimhgeigbpkaa.Dg
/- The groups of patches, in plain Lean. No program in sight. -/
namespace Go.Proofs.Ytgmimhgeigbpkaa.Dg
open Go
/-- The groups that were found of the first i indices. -/
structure GInv (C : Nat → Nat → Bool) (n : Nat) (S : List Bool) (gs : List (List Nat)) (i : Nat) : Prop where
 len : S.length = n
 lt : ∀ g ∈ gs, ∀ a ∈ g, a < n
 mem : ∀ k, k < n → (S.getD k false = true ↔ ∃ g ∈ gs, k ∈ g)
 sorted : ∀ g ∈ gs, g.Pairwise (· < ·)
 apart : gs.Pairwise (fun g h => ∀ a ∈ g, ∀ k ∈ h, a ≠ k ∧ C a k = true)
 closed : ∀ g ∈ gs, ∀ a ∈ g, ∀ k, k < n → C a k = false → S.getD k false = true
 first : ∀ k, k < i → k < n → S.getD k false = true
 link : ∀ g ∈ gs, ∃ r ∈ g, ∀ a ∈ g, a ≠ r → ∃ b ∈ g, C b a = false
 some : ∀ g ∈ gs, g ≠ []
theorem GInv.start (C : Nat → Nat → Bool) (n : Nat) : GInv C n (List.replicate n false) [] 0 :=
 ⟨List.length_replicate, fun g h => absurd h (by simp), fun k hk => by simp [List.getD_eq_getElem?_getD, List.getElem?_replicate, hk], fun g h => absurd h (by simp), List.Pairwise.nil, fun g h => absurd h (by simp), fun k h => absurd h (by omega), fun g h => absurd h (by simp), fun g h => absurd h (by simp)⟩
theorem GInv.skip {C : Nat → Nat → Bool} {n : Nat} {S : List Bool} {gs : List (List Nat)} {i : Nat} (h : GInv C n S gs i) (hs : S.getD i false = true) : GInv C n S gs (i + 1) :=
 ⟨h.len, h.lt, h.mem, h.sorted, h.apart, h.closed, fun k hk hn => by
  by_cases e : k = i
  ·subst e; exact hs
  ·exact h.first k (by omega) hn, h.link, h.some⟩
/-- What comes out of a visit, sorted, is one more group. -/
theorem GInv.visit {C : Nat → Nat → Bool} {n : Nat} {S S' : List Bool} {gs : List (List Nat)} {i : Nat} (h : GInv C n S gs i) {add g : List Nat} (hv : Vis C n S S' add i n) (hp : g.Perm add) (hg : g.Pairwise (· ≤ ·)) : GInv C n S' (gs ++ [g]) (i + 1) where
 len := hv.len'
 lt := fun x hx a ha => by
  rcases List.mem_append.1 hx with k | k
  ·exact h.lt x k a ha
  ·rw [List.mem_singleton.1 k] at ha
   exact (hv.un a (hp.mem_iff.1 ha)).1
 mem := fun k hk => by
  rw [hv.mem k hk, Bool.or_eq_true, decide_eq_true_eq, h.mem k hk]
  constructor
  ·rintro (⟨x, hx, hkx⟩ | hka)
   ·exact ⟨x, List.mem_append.2 (Or.inl hx), hkx⟩
   ·exact ⟨g, List.mem_append.2 (Or.inr (List.mem_singleton.2 rfl)), hp.mem_iff.2 hka⟩
  ·rintro ⟨x, hx, hkx⟩
   rcases List.mem_append.1 hx with q | q
   ·exact Or.inl ⟨x, q, hkx⟩
   ·rw [List.mem_singleton.1 q] at hkx
    exact Or.inr (hp.mem_iff.1 hkx)
 sorted := fun x hx => by
  rcases List.mem_append.1 hx with k | k
  ·exact h.sorted x k
  ·rw [List.mem_singleton.1 k]
   have hn : g.Nodup := hp.nodup_iff.2 hv.nodup
   exact (hg.and hn).imp fun {a b} ⟨h1, h2⟩ => Nat.lt_of_le_of_ne h1 h2
 apart := by
  rw [List.pairwise_append]
  refine ⟨h.apart, List.pairwise_singleton .., fun x hx y hy a ha k hk => ?_⟩
  rw [List.mem_singleton.1 hy] at hk
  have h1 := hv.un k (hp.mem_iff.1 hk)
  constructor
  ·intro e
   subst e
   have := (h.mem a h1.1).2 ⟨x, hx, ha⟩
   rw [h1.2] at this
   cases this
  ·cases hc : C a k with
   | true => rfl
   | false =>
    have := h.closed x hx a ha k h1.1 hc
    rw [h1.2] at this
    cases this
 closed := fun x hx a ha k hk hc => by
  rcases List.mem_append.1 hx with q | q
  ·exact hv.mono hk (h.closed x q a ha k hk hc)
  ·rw [List.mem_singleton.1 q] at ha
   have ha' := hp.mem_iff.1 ha
   by_cases e : a = i
   ·subst e; exact hv.closedi k hk hk hc
   ·exact hv.closed a ha' e k hk hc
 first := fun k hk hn => by
  by_cases e : k = i
  ·subst e
   rw [hv.mem k hn, decide_eq_true hv.has, Bool.or_true]
  ·exact hv.mono hn (h.first k (by omega) hn)
 link := fun x hx => by
  rcases List.mem_append.1 hx with q | q
  ·exact h.link x q
  ·rw [List.mem_singleton.1 q]
   refine ⟨i, hp.mem_iff.2 hv.has, fun a ha hne => ?_⟩
   obtain ⟨b, hb, hc⟩ := hv.link a (hp.mem_iff.1 ha) hne
   exact ⟨b, hp.mem_iff.2 hb, hc⟩
 some := fun x hx => by
  rcases List.mem_append.1 hx with q | q
  ·exact h.some x q
  ·rw [List.mem_singleton.1 q]
   intro e
   have := hp.mem_iff.2 hv.has
   rw [e] at this
   cases this
/-- Whether the patches at two indices can be exchanged. -/
def commI (l : List Pt) (i k : Nat) : Bool := match l[i]?, l[k]? with
 | some p, some q => commP p q
 | _, _ => true
theorem commI_at {l : List Pt} {i k : Nat} {p q : Pt} (hi : l[i]? = some p) (hk : l[k]? = some q) : commI l i k = commP p q := by
 unfold commI
 rw [hi, hk]
theorem GInv.done {l : List Pt} {S : List Bool} {gs : List (List Nat)} (h : GInv (commI l) l.length S gs l.length) : GrpOk l gs where
 all := fun i => ⟨fun hi => (h.mem i hi).1 (h.first i hi hi), fun ⟨g, hg, hi⟩ => h.lt g hg i hi⟩
 sorted := h.sorted
 apart := h.apart.imp fun {g k} hgk a ha b hb => by
  obtain ⟨h1, h2⟩ := hgk a ha b hb
  refine ⟨h1, fun p q hp hq => commP_free ?_⟩
  rw [← commI_at hp hq]
  exact h2
/-- Where all can be exchanged, each group is of one patch. -/
theorem GInv.all_free {l : List Pt} {S : List Bool} {gs : List (List Nat)} (h : GInv (commI l) l.length S gs l.length) (hf : ∀ p ∈ l, ∀ q ∈ l, commP p q = true) : gs.length = l.length := by
 have hf' : ∀ a b, commI l a b = true := fun a b => by
  unfold commI
  split
  ·rename_i p q hp hq
   exact hf p (List.mem_of_getElem? hp) q (List.mem_of_getElem? hq)
  ·rfl
 have h1 : ∀ g ∈ gs, g.length = 1 := fun g hg => by
  obtain ⟨r, hr, hl⟩ := h.link g hg
  have hall : ∀ a ∈ g, a = r := fun a ha => by
   by_cases e : a = r
   ·exact e
   ·obtain ⟨b, _, hc⟩ := hl a ha e
    rw [hf'] at hc
    cases hc
  have hs := h.sorted g hg
  match g, hr, hall, hs with
  | [x], _, _, _ => rfl
  | x :: y :: t, _, hall, hs =>
   have e1 := hall x (List.mem_cons_self ..)
   have e2 := hall y (List.mem_cons_of_mem _ (List.mem_cons_self ..))
   have := (List.pairwise_cons.1 hs).1 y (List.mem_cons_self ..)
   omega
 have h2 := turned_len h.done (List.Perm.refl gs)
 have h3 : gs.flatten.length = gs.length := by
  rw [List.length_flatten]
  have : gs.map List.length = List.replicate gs.length 1 := by
   apply List.ext_getElem
   ·simp
   ·intro i h4 h5
    rw [List.getElem_map, List.getElem_replicate]
    exact h1 _ (List.getElem_mem ..)
  rw [this]
  simp
 omega
/-- Two things exchanged in a row. -/
theorem perm_swap {α : Type} (l : List α) (i k : Nat) (hi : i < l.length) (hk : k < l.length) : ((l.set i l[k]).set k l[i]).Perm l := by
 by_cases e : i = k
 ·subst e
  rw [List.set_getElem_self, List.set_getElem_self]
 ·exact (List.set_set_perm hi hk)
end Go.Proofs.Ytgmimhgeigbpkaa.Dg
/- The search of Groups of package commute. No conditions but those that each theorem states. -/
namespace Go.Proofs.Ytgmimhgeigbpkaa
open Go Go.RowKit Go.Sort Go.Maps
def boolsV (S : List Bool) : Array Value := (S.map Value.bool).toArray
/-- Whole numbers: one cell each. -/
def zL : Lay Nat := ⟨fun x => [.int .i64 (x : Int)], 1, fun _ => rfl, fun x u hu => by
 obtain rfl := List.mem_singleton.1 hu
 rfl⟩
theorem zInfo : (Try.prog.info? 3).map (fun i => (i.zero, i.size, i.bytes)) = some (some (.int .i64 0), 1, 8) := by kernel_rfl
/-- The variables of Groups: its patches, what is seen, the group, the search. -/
structure GrS (g : Nat) (A : Option Addr) (n c : Nat) (l : List Dg.Pt) (S : List Bool) (v : Value) (G : List Nat) (X : World) : Prop where
 rL : X.heap[g]? = some (.cells #[.slice A n c] 28 (0, 0))
 rs : X.heap[g + 1]? = some (.cells (boolsV S) 4 (0, 0))
 rS : X.heap[g + 2]? = some (.cells #[.slice (some ⟨g + 1, 0, none⟩) n n] 74 (0, 0))
 rG : X.heap[g + 3]? = some (.cells #[v] 59 (0, 0))
 rV : X.heap[g + 4]? = some (.cells #[.func (.func 33) #[] #[.pointer (some ⟨g + 2, 0, none⟩), .pointer (some ⟨g + 3, 0, none⟩), .pointer (some ⟨g, 0, none⟩), .pointer (some ⟨g + 4, 0, none⟩)]] 75 (0, 0))
 own : Own1 zL 3 X (g + 5) v G
 row : Row1 ptL X g A l
theorem GrS.below {g : Nat} {A : Option Addr} {n c : Nat} {l : List Dg.Pt} {S : List Bool} {v : Value} {G : List Nat} {X X' : World} (h : GrS g A n c l S v G X) (hb : Below X.heap.size X X') : GrS g A n c l S v G X' := ⟨iNext h.rL hb, iNext h.rs hb, iNext h.rS hb, iNext h.rG hb, iNext h.rV hb, h.own.below hb, h.row.below (hb.mono (Nat.le_of_lt (lt_of_block h.rL)))⟩
/-- What the search leaves as it lay. -/
structure GrF (g : Nat) (O : Option Nat) (X X' : World) : Prop where
 below : Below (g + 1) X X'
 keep : ∀ k, k < X.heap.size → k ≠ g + 1 → k ≠ g + 3 → some k ≠ O → X'.heap[k]? = X.heap[k]?
theorem GrF.trans {g : Nat} {O O' : Option Nat} {X Y Z : World} (h : GrF g O X Y) (k : GrF g O' Y Z) (hO : DrN X.heap.size O O') : GrF g O X Z :=
 ⟨h.below.trans k.below, fun i hi h1 h3 hn => by
  refine (k.keep i (Nat.lt_of_lt_of_le hi h.below.size) h1 h3 (fun e => ?_)).trans (h.keep i hi h1 h3 hn)
  rcases hO with rfl | ⟨b, e2, hb⟩
  ·exact hn e
  ·rw [e2] at e
   injection e with e
   omega⟩
theorem GrF.of_below {g : Nat} {O : Option Nat} {X Y : World} (h : Below X.heap.size X Y) (hg : g + 1 ≤ X.heap.size) : GrF g O X Y := ⟨h.mono hg, fun k hk _ _ _ => h.block k hk⟩
theorem GrS.far {g : Nat} {A : Option Addr} {n c : Nat} {l : List Dg.Pt} {S : List Bool} {v : Value} {G : List Nat} {X : World} (h : GrS g A n c l S v G X) {k : Nat} (hk : k ≤ g + 4) : some k ≠ v.ownBlock := fun e => by
 have := (World.ownsRow.lt h.own k e.symm).1
 omega
theorem GrS.top {g : Nat} {A : Option Addr} {n c : Nat} {l : List Dg.Pt} {S : List Bool} {v : Value} {G : List Nat} {X : World} (h : GrS g A n c l S v G X) : g + 4 < X.heap.size := lt_of_block h.rV
theorem row_blocks {α : Type} {L : Lay α} {w w' : World} {B : Nat} {A : Option Addr} {l : List α} (h : Row1 L w B A l) (hb : ∀ b, b < B → w'.heap[b]? = w.heap[b]?) : Row1 L w' B A l :=
 ⟨fun h0 => by
  obtain ⟨b, off, e, hlt, hc⟩ := h.at_ h0
  exact ⟨b, off, e, hlt, fun j u hu => (World.cell?_of_block (a := ⟨b, off + j, none⟩) (hb b hlt)).trans (hc j u hu)⟩⟩
/-- The variables behind something that leaves the rest as it lay. -/
theorem GrS.turn {g : Nat} {A : Option Addr} {n c : Nat} {l : List Dg.Pt} {S S' : List Bool} {v v' : Value} {G G' : List Nat} {X Y : World} (h : GrS g A n c l S v G X) (hk : ∀ k, k < X.heap.size → k ≠ g + 1 → k ≠ g + 3 → some k ≠ v.ownBlock → Y.heap[k]? = X.heap[k]?)
  (hs : Y.heap[g + 1]? = some (.cells (boolsV S') 4 (0, 0))) (hG : Y.heap[g + 3]? = some (.cells #[v'] 59 (0, 0))) (hO : Own1 zL 3 Y (g + 5) v' G') : GrS g A n c l S' v' G' Y := by
 have ht := h.top
 exact ⟨(hk g (by omega) (by omega) (by omega) (h.far (by omega))).trans h.rL, hs, (hk (g + 2) (by omega) (by omega) (by omega) (h.far (by omega))).trans h.rS, hG, (hk (g + 4) (by omega) (by omega) (by omega) (h.far (by omega))).trans h.rV, hO,
  row_blocks h.row fun b hb => hk b (by omega) (by omega) (by omega) (h.far (by omega))⟩
theorem own_same {α : Type} {L : Lay α} {e : TypeId} {w w' : World} {B : Nat} {v : Value} {l : List α} (h : Own1 L e w B v l) (hb : ∀ k, v.ownBlock = some k → w'.heap[k]? = w.heap[k]?) : Own1 L e w' B v l := by
 obtain ⟨h1, h2⟩ := h
 refine ⟨h1, ?_⟩
 rcases h2 with h2 | ⟨b, cap, cur, hv, hB, hh, r⟩
 ·exact Or.inl h2
 ·exact Or.inr ⟨b, cap, cur, hv, hB, (hb b (by rw [hv]; rfl)).trans hh, r⟩
/-- Where the search from i has looked at the neighbours below k. -/
def GrQ (g : Nat) (A : Option Addr) (n c : Nat) (l : List Dg.Pt) (S : List Bool) (v : Value) (G : List Nat) (i k : Nat) (W X : World) : Prop :=
 ∃ (S' : List Bool) (add : List Nat) (v' : Value), GrS g A n c l S' v' (G ++ add) X ∧ Dg.Vis (Dg.commI l) n S S' add i k ∧ add.length + Dg.unseen S' ≤ Dg.unseen S ∧ GrF g v.ownBlock W X ∧ DrN W.heap.size v.ownBlock v'.ownBlock
theorem GrQ.skip {g : Nat} {A : Option Addr} {n c : Nat} {l : List Dg.Pt} {S S' : List Bool} {v v' : Value} {G add : List Nat} {i k : Nat} {W X Y : World} (hS : GrS g A n c l S' v' (G ++ add) X) (hV : Dg.Vis (Dg.commI l) n S S' add i k) (hU : add.length + Dg.unseen S' ≤ Dg.unseen S) (hF : GrF g v.ownBlock W X) (hN : DrN W.heap.size v.ownBlock v'.ownBlock)
  (hb : Below X.heap.size X Y) (hk : S'.getD k false = true ∨ Dg.commI l i k = true) : GrQ g A n c l S v G i (k + 1) W Y :=
 ⟨S', add, v', hS.below hb, hV.skip hk, hU, hF.trans (GrF.of_below (O := v.ownBlock) hb (by have := hS.top; omega)) (.inl rfl), hN⟩
theorem GrQ.visit {g : Nat} {A : Option Addr} {n c : Nat} {l : List Dg.Pt} {S S' : List Bool} {v v' : Value} {G add : List Nat} {i k : Nat} {W X Y Z : World} (hS : GrS g A n c l S' v' (G ++ add) X) (hV : Dg.Vis (Dg.commI l) n S S' add i k) (hU : add.length + Dg.unseen S' ≤ Dg.unseen S) (hF : GrF g v.ownBlock W X) (hN : DrN W.heap.size v.ownBlock v'.ownBlock)
  (hb : Below X.heap.size X Y) (hc : Dg.commI l i k = false) (h2 : GrQ g A n c l S' v' (G ++ add) k n Y Z) : GrQ g A n c l S v G i (k + 1) W Z := by
 obtain ⟨S2, add2, v2, q1, q2, q3, q4, q5⟩ := h2
 have hXY : GrF g v'.ownBlock X Y := GrF.of_below hb (by have := hS.top; omega)
 refine ⟨S2, add ++ add2, v2, by rw [← List.append_assoc]; exact q1, hV.visit hc q2, by rw [List.length_append]; omega, hF.trans (hXY.trans q4 (.inl rfl)) hN, hN.trans (m := X.heap.size) ?_ hF.below.size⟩
 rcases q5 with q5 | ⟨b, e, hb5⟩
 ·exact .inl q5
 ·exact .inr ⟨b, e, Nat.le_trans hb.size hb5⟩
theorem seen_cell {g : Nat} {A : Option Addr} {n c : Nat} {l : List Dg.Pt} {S : List Bool} {v : Value} {G : List Nat} {X : World} (h : GrS g A n c l S v G X) {k : Nat} (hk : k < S.length) : X.cell? ⟨g + 1, k, none⟩ = some (.bool (S.getD k false)) := by
 rw [cell_of_row _ _ _ _ _ (0, 0) h.rs, ← Array.getElem?_toList]
 simp [boolsV, List.getD_eq_getElem?_getD, hk]
theorem set_bools (S : List Bool) (i : Nat) (hi : i < S.length) : (boolsV S).toList.take i ++ (Value.bool true).cells.toList ++ (boolsV S).toList.drop (i + (Value.bool true).cells.size) = (boolsV (S.set i true)).toList := by
 show (S.map Value.bool).take i ++ [Value.bool true] ++ (S.map Value.bool).drop (i + 1) = (S.set i true).map Value.bool
 rw [List.map_set, List.set_eq_take_append_cons_drop, if_pos (by rw [List.length_map]; exact hi)]
 simp
set_option maxRecDepth 100000 in
set_option maxHeartbeats 16000000 in
attribute [-go_sem] Instr.storeAt in
theorem visit_any (g : Nat) (A : Option Addr) (n c : Nat) (l : List Dg.Pt) (hl : l.length = n) (hn : n ≤ 1048576) (hnc : n ≤ c) (hw : ∀ p ∈ l, PtW p ∧ p.kind ≠ 2) : ∀ (m : Nat) (S : List Bool) (v : Value) (G : List Nat) (i : Nat) (W : World), Dg.unseen S ≤ m → S.length = n → i < n → S.getD i false = false → G.length + Dg.unseen S ≤ n → GrS g A n c l S v G W →
  Calls Try.prog 33 #[.int .i64 (i : Int), .pointer (some ⟨g + 2, 0, none⟩), .pointer (some ⟨g + 3, 0, none⟩), .pointer (some ⟨g, 0, none⟩), .pointer (some ⟨g + 4, 0, none⟩)] W fun e W' => e = .returned (.tuple #[]) ∧ GrQ g A n c l S v G i n W W'
 | 0, S, v, G, i, W, hu, hSl, hi, hs, _, _ => by
  have := Dg.unseen_set (S := S) (i := i) (by omega) hs
  omega
 | m + 1, S, v, G, i, W, hu, hSl, hi, hs, hG, hS => by
  have IH := hide (visit_any g A n c l hl hn hnc hw m)
  have hmx : Try.prog.follows .mixedOrders = true := by kernel_rfl
  have htop := hS.top
  have hiS : i < S.length := by omega
  have hus := Dg.unseen_set (S := S) (i := i) hiS hs
  have hst := store_part (ty := 4) W (g + 1) i (boolsV S) (.bool true) (boolsV (S.set i true)) hS.rs infoBool1 (by show i + 1 ≤ (S.map Value.bool).length; rw [List.length_map]; exact hiS) (one_bool true) (set_bools S i hiS)
  have hS1 : GrS g A n c l (S.set i true) v G (W.setRow (g + 1) (boolsV (S.set i true))) := hS.turn (fun k hk h1 _ _ => setRow_other W (g + 1) k _ h1) (setRow_heap W (g + 1) _ _ _ _ hS.rs) ((setRow_other W (g + 1) (g + 3) _ (by omega)).trans hS.rG) (own_other hS.own (by
   have := hS.far (k := g + 1) (by omega)
   exact fun e => this e.symm) _)
  have hF1 : GrF g v.ownBlock W (W.setRow (g + 1) (boolsV (S.set i true))) := ⟨below_setRow (Below.refl _ _) (Nat.le_refl _) _, fun k hk h1 _ _ => setRow_other W (g + 1) k _ h1⟩
  have hV0 := Dg.Vis.start (C := Dg.commI l) hSl hi hs
  have c2 := iCells0 hS.rS
  have i0 : (0 : Int) ≤ (i : Int) := by omega
  have i1 : (i : Int) < (n : Int) := by omega
  have HG := hide hG; have HL := hide hl; have HW := hide hw; have HUS := hide hus; have HV0 := hide hV0; have HSL := hide hSl; have HU := hide hu; have HI := hide hi
  clear hu hSl hs hG hl hw hus hV0 hiS hi
  go_enter Try.func33, Try.ntmps33
  go_upto_region 1 with (fail)
  clear hst c2
  have hz1 : W.heap.size ≤ (W.setRow (g + 1) (boolsV (S.set i true))).heap.size := by rw [size_setRow]; exact Nat.le_refl _
  have hz2 := hS1.top
  have HS0 := hide hS
  clear hS
  generalize W.setRow (g + 1) (boolsV (S.set i true)) = W1 at *
  obtain ⟨A5, c5, hv5, _, _⟩ := hS1.own.row
  obtain ⟨gl, hgl⟩ : ∃ gl, G.length = gl := ⟨_, rfl⟩
  rw [hgl] at hv5
  subst hv5
  have hgn : gl + 1 ≤ 4294967296 := by have := HG.out; omega
  have c3 := iCells0 hS1.rG
  have rb : Row1 zL (W1.alloc (.cells #[.int .i64 (i : Int)] 3)) (W1.heap.size + 1) (some ⟨W1.heap.size, 0, none⟩) [i] := ⟨fun _ => ⟨W1.heap.size, 0, rfl, by omega, fun j u hu => by
   rw [Nat.zero_add, cell_of_row _ _ _ _ _ _ (heap_alloc_new W1 _), ← Array.getElem?_toList]
   exact hu⟩⟩
  have ho1 := hS1.own.below (Below.news (Below.refl W1.heap.size W1) (.cells #[.int .i64 (i : Int)] 3))
  have hbn := Below.news (Below.refl W1.heap.size W1) (.cells #[.int .i64 (i : Int)] 3)
  have hsz : g + 5 ≤ (W1.alloc (.cells #[.int .i64 (i : Int)] 3)).heap.size := by rw [World.size_alloc]; omega
  go_wp2_with (at_builtin; go_loud (refine step_app1 (L := zL) rfl (.tmp 10) (.tmp 12) 59 3 _ 8 rfl Try.underlying59 zInfo rfl (by decide) (g + 5) (W1.heap.size + 1) _ G [i] rfl ho1 (some ⟨W1.heap.size, 0, none⟩) 1 1 rfl rfl rb (by rw [hgl]; exact hgn) (by decide) hsz ?_))
  intro v1 w1 h1 h2 h3 h4
  obtain ⟨A6, c6, hv6, _, _⟩ := h1.row
  have hS2 := hS1.below hbn
  have hkeep : ∀ k, k < W1.heap.size → some k ≠ (Value.slice A5 gl c5).ownBlock → w1.heap[k]? = W1.heap[k]? := fun k hk hne => (h3.block k (by rw [World.size_alloc]; omega) hne).trans (hbn.block k hk)
  have rG1 : w1.heap[g + 3]? = some (.cells #[.slice A5 gl c5] 59 (0, 0)) := (hkeep (g + 3) (by omega) (hS1.far (by omega))).trans hS1.rG
  have hlv : (G ++ [i]).length = gl + 1 := by rw [List.length_append, hgl]; rfl
  rw [hlv] at hv6
  subst hv6
  have hst := store_part (ty := 59) w1 (g + 3) 0 #[.slice A5 gl c5] (.slice A6 (gl + 1) c6) #[.slice A6 (gl + 1) c6] rG1 (by kernel_rfl) (Nat.le_refl _) (one_sl _ _ _) rfl
  have hS3 : GrS g A n c l (S.set i true) (.slice A6 (gl + 1) c6) (G ++ [i]) (w1.setRow (g + 3) #[.slice A6 (gl + 1) c6]) := hS1.turn (fun k hk h1 h3 hne => (setRow_other w1 (g + 3) k _ h3).trans (hkeep k hk hne)) ((setRow_other w1 (g + 3) (g + 1) _ (by omega)).trans ((hkeep (g + 1) (by omega) (hS1.far (by omega))).trans hS1.rs)) (setRow_heap w1 (g + 3) _ _ _ _ rG1) (own_other h1 (fun e => by
   have := (World.ownsRow.lt h1 (g + 3) e).1
   omega) _)
  have hb1 : Below (g + 1) W1 w1 := (hbn.mono (by omega)).trans (h2.mono (by omega))
  have hF3 : GrF g (Value.slice A5 gl c5).ownBlock W (w1.setRow (g + 3) #[.slice A6 (gl + 1) c6]) := hF1.trans (O' := (Value.slice A5 gl c5).ownBlock) ⟨below_setRow hb1 (by omega) _, fun k hk h1 h3 hne => (setRow_other w1 (g + 3) k _ h3).trans (hkeep k hk hne)⟩ (.inl rfl)
  have hN3 : DrN W.heap.size (Value.slice A5 gl c5).ownBlock (Value.slice A6 (gl + 1) c6).ownBlock := by
   rcases h4 with h4 | h4
   ·exact .inl h4
   ·exact .inr ⟨_, h4, by first | omega | (rw [World.size_alloc]; omega)⟩
  have hQ0 : GrQ g A n c l S (.slice A5 gl c5) G i 0 W (w1.setRow (g + 3) #[.slice A6 (gl + 1) c6]) := ⟨_, [i], _, hS3, HV0.out, by show 1 + _ ≤ _; have := HUS.out; omega, hF3, hN3⟩
  have HGL := hide hgl
  clear h1 h2 h3 h4 hkeep rG1 hlv hS2 hb1 hF3 hN3 hS1 hF1 rb ho1 hbn hsz c3 hgl
  go_upto_region 2 with (fail)
  clear hst
  have c0 := iCells0 hS3.rL
  have HQ0 := hide hQ0
  clear hQ0 hS3
  generalize w1.setRow (g + 3) #[.slice A6 (gl + 1) c6] = W2 at *
  go_wp2_with (fail)
  clear c0
  go_loopw [16] (fun iv wr => ∃ k : Nat, k ≤ n ∧ iv = .int .i64 k ∧ Hid (GrQ g A n c l S (.slice A5 gl c5) G i k W wr)) (fun iv _ => n - (intOf iv).toNat)
  case atStart => exact ⟨0, Nat.zero_le _, rfl, HQ0⟩
  case round =>
   clear HQ0
   obtain ⟨k, hk, rfl, HQ⟩ := hrel
   by_cases hlt : k < n
   ·obtain ⟨S', add, v', hS', hV', hU', hF', hN'⟩ := HQ.out
    clear HQ
    have HS := hide hS'; have HV := hide hV'; have HUU := hide hU'; have HFF := hide hF'; have HNN := hide hN'
    have hkl : k < l.length := by rw [HL.out]; exact hlt
    have hil : i < l.length := by rw [HL.out]; exact HI.out
    obtain ⟨b, off, hA⟩ := hS'.row.someP (by omega)
    subst hA
    obtain ⟨pk, hpk⟩ : ∃ p, l[k] = p := ⟨_, rfl⟩
    obtain ⟨pi, hpi⟩ : ∃ p, l[i] = p := ⟨_, rfl⟩
    have HPK := hide hpk; have HPI := hide hpi
    have hwk := HW.out pk (by rw [← hpk]; exact List.getElem_mem hkl)
    have hwi := HW.out pi (by rw [← hpi]; exact List.getElem_mem hil)
    have HWK := hide hwk; have HWI := hide hwi
    have HSK := hide (fun X (hX : Below wr.heap.size wr X) => HS.out.below hX)
    have HRK := hide (fun X (hX : Below wr.heap.size wr X) => row_range (HS.out.below hX).row hkl pk HPK.out)
    have HRI := hide (fun X (hX : Below wr.heap.size wr X) => row_range (HS.out.below hX).row hil pi HPI.out)
    obtain ⟨cm, hcm⟩ : ∃ cm, Dg.commP pi pk = cm := ⟨_, rfl⟩
    have HCM := hide hcm
    have HCI := hide (show Dg.commI l i k = cm by rw [Dg.commI_at (by rw [List.getElem?_eq_getElem hil, hpi]) (by rw [List.getElem?_eq_getElem hkl, hpk])]; exact hcm)
    obtain ⟨sk, hsk⟩ : ∃ sk, S'.getD k false = sk := ⟨_, rfl⟩
    have HSKD := hide hsk
    have HLS := hide (show k < S'.length by rw [hV'.len']; exact hlt)
    clear hS' hV' hU' hF' hN' hpk hpi hwk hwi hcm hsk
    have k0 : (0 : Int) ≤ (k : Int) := by omega
    have k1 : (k : Int) < (n : Int) := by omega
    go_upto_region 5 with (fail)
    refine wp_region_noPanic ?_
    refine wp_region_L (Below wr.heap.size wr) 17 hmx ?_
    have hH0 : (Below wr.heap.size wr) wr.drew := (Below.refl wr.heap.size wr).drew
    generalize wr.drew = u0 at *
    cases sk with
    | true =>
     refine tkY 0 19 ?_ rfl ?_ hH0 ?_
     rotate_left
     ·intro wS hS; have c1 : wS.cell? ⟨g + 2, 0, none⟩ = some (.slice (some ⟨g + 1, 0, none⟩) n n) := iCells0 (HSK.out _ hS).rS; go_simp; (try with_reducible rfl)
     simp only [Act.put, pu1, pu2, pu3, pu4, pu5, pu6]
     refine tkY 1 19 ?_ rfl ?_ hH0 ?_
     rotate_left
     ·intro wS hS; go_simp; (try with_reducible rfl)
     simp only [Act.put, pu1, pu2, pu3, pu4, pu5, pu6]
     refine tkY 2 19 ?_ rfl ?_ hH0 ?_
     rotate_left
     ·intro wS hS; go_simp; (try with_reducible rfl)
     simp only [Act.put, pu1, pu2, pu3, pu4, pu5, pu6]
     refine tkY 3 19 ?_ rfl ?_ hH0 ?_
     rotate_left
     ·intro wS hS; have c2 : wS.cell? ⟨g + 1, k, none⟩ = some (.bool true) := (by rw [← HSKD.out]; exact seen_cell (HSK.out _ hS) HLS.out); go_simp; (try with_reducible rfl)
     simp only [Act.put, pu1, pu2, pu3, pu4, pu5, pu6]
     refine tkY 4 19 ?_ rfl ?_ hH0 ?_
     rotate_left
     ·intro wS hS; go_simp; (try with_reducible rfl)
     simp only [Act.put, pu1, pu2, pu3, pu4, pu5, pu6]
     refine tkY 5 19 ?_ rfl ?_ hH0 ?_
     rotate_left
     ·intro wS hS; go_simp; (try with_reducible rfl)
     simp only [Act.put, pu1, pu2, pu3, pu4, pu5, pu6]
     refine tkV 6 19 (undef) rfl (Or.inr ⟨by rfl, rfl⟩) hH0 ?_
     simp only [Act.put, pu1, pu2, pu3, pu4, pu5, pu6]
     refine tkV 7 19 (undef) rfl (Or.inr ⟨by rfl, rfl⟩) hH0 ?_
     simp only [Act.put, pu1, pu2, pu3, pu4, pu5, pu6]
     refine tkV 8 19 (undef) rfl (Or.inr ⟨by rfl, rfl⟩) hH0 ?_
     simp only [Act.put, pu1, pu2, pu3, pu4, pu5, pu6]
     refine tkV 9 19 (undef) rfl (Or.inr ⟨by rfl, rfl⟩) hH0 ?_
     simp only [Act.put, pu1, pu2, pu3, pu4, pu5, pu6]
     refine tkV 10 19 (undef) rfl (Or.inr ⟨by rfl, rfl⟩) hH0 ?_
     simp only [Act.put, pu1, pu2, pu3, pu4, pu5, pu6]
     refine tkV 11 19 (undef) rfl (Or.inr ⟨by rfl, rfl⟩) hH0 ?_
     simp only [Act.put, pu1, pu2, pu3, pu4, pu5, pu6]
     refine tkV 12 19 (undef) rfl (Or.inr ⟨by rfl, rfl⟩) hH0 ?_
     simp only [Act.put, pu1, pu2, pu3, pu4, pu5, pu6]
     refine tkV 13 19 (undef) rfl (Or.inr ⟨by rfl, rfl⟩) hH0 ?_
     simp only [Act.put, pu1, pu2, pu3, pu4, pu5, pu6]
     refine tkV 14 19 (undef) rfl (Or.inr ⟨by rfl, rfl⟩) hH0 ?_
     simp only [Act.put, pu1, pu2, pu3, pu4, pu5, pu6]
     refine tkV 15 19 (undef) rfl (Or.inr ⟨by rfl, rfl⟩) hH0 ?_
     simp only [Act.put, pu1, pu2, pu3, pu4, pu5, pu6]
     refine tkY 16 19 ?_ rfl ?_ hH0 ?_
     rotate_left
     ·intro wS hS; go_simp; (try with_reducible rfl)
     simp only [Act.put, pu1, pu2, pu3, pu4, pu5, pu6]
     refine dnY ?_
     go_wp2_with (fail)
     go_roundw
     case rel => exact ⟨k + 1, by omega, by go_num, hide (GrQ.skip HS.out HV.out HUU.out HFF.out HNN.out hH0 (.inl HSKD.out))⟩
     case measure => simp [intOf]; omega
    | false =>
     refine tkY 0 19 ?_ rfl ?_ hH0 ?_
     rotate_left
     ·intro wS hS; have c1 : wS.cell? ⟨g + 2, 0, none⟩ = some (.slice (some ⟨g + 1, 0, none⟩) n n) := iCells0 (HSK.out _ hS).rS; go_simp; (try with_reducible rfl)
     simp only [Act.put, pu1, pu2, pu3, pu4, pu5, pu6]
     refine tkY 1 19 ?_ rfl ?_ hH0 ?_
     rotate_left
     ·intro wS hS; go_simp; (try with_reducible rfl)
     simp only [Act.put, pu1, pu2, pu3, pu4, pu5, pu6]
     refine tkY 2 19 ?_ rfl ?_ hH0 ?_
     rotate_left
     ·intro wS hS; go_simp; (try with_reducible rfl)
     simp only [Act.put, pu1, pu2, pu3, pu4, pu5, pu6]
     refine tkY 3 19 ?_ rfl ?_ hH0 ?_
     rotate_left
     ·intro wS hS; have c2 : wS.cell? ⟨g + 1, k, none⟩ = some (.bool false) := (by rw [← HSKD.out]; exact seen_cell (HSK.out _ hS) HLS.out); go_simp; (try with_reducible rfl)
     simp only [Act.put, pu1, pu2, pu3, pu4, pu5, pu6]
     refine tkY 4 19 ?_ rfl ?_ hH0 ?_
     rotate_left
     ·intro wS hS; go_simp; (try with_reducible rfl)
     simp only [Act.put, pu1, pu2, pu3, pu4, pu5, pu6]
     refine tkY 5 19 ?_ rfl ?_ hH0 ?_
     rotate_left
     ·intro wS hS; go_simp; (try with_reducible rfl)
     simp only [Act.put, pu1, pu2, pu3, pu4, pu5, pu6]
     refine tkY 6 19 ?_ rfl ?_ hH0 ?_
     rotate_left
     ·intro wS hS; have c3 : wS.cell? ⟨g, 0, none⟩ = some (.slice (some ⟨b, off, none⟩) n c) := iCells0 (HSK.out _ hS).rL; go_simp; (try with_reducible rfl)
     simp only [Act.put, pu1, pu2, pu3, pu4, pu5, pu6]
     refine tkY 7 19 ?_ rfl ?_ hH0 ?_
     rotate_left
     ·intro wS hS; go_simp; (try with_reducible rfl)
     simp only [Act.put, pu1, pu2, pu3, pu4, pu5, pu6]
     refine tkY 8 19 ?_ rfl ?_ hH0 ?_
     rotate_left
     ·intro wS hS; go_simp; (try with_reducible rfl)
     simp only [Act.put, pu1, pu2, pu3, pu4, pu5, pu6]
     refine tkV 9 19 (.agg #[.int .i64 pi.1, .string pi.2, .string pi.3, .string pi.4, .string pi.5, .int .i64 pi.6.1, .string pi.6.2, .string pi.6.3, .string pi.6.4, .string pi.6.5, .string pi.6.6, .bool pi.6.7, .int .i64 pi.7, .string pi.8, .string pi.9]) rfl (by exact yieldsIf_load_mid (by rfl) 39 (.tmp 27) rfl b (off + i * 15) rfl [.int .i64 pi.1, .string pi.2, .string pi.3, .string pi.4, .string pi.5, .int .i64 pi.6.1, .string pi.6.2, .string pi.6.3, .string pi.6.4, .string pi.6.5, .string pi.6.6, .bool pi.6.7, .int .i64 pi.7, .string pi.8, .string pi.9] _ (fun X hX => HRI.out X hX) Try.underlying39 rfl (by kernel_rfl)) hH0 ?_
     simp only [Act.put, pu1, pu2, pu3, pu4, pu5, pu6]
     refine tkY 10 19 ?_ rfl ?_ hH0 ?_
     rotate_left
     ·intro wS hS; have c3 : wS.cell? ⟨g, 0, none⟩ = some (.slice (some ⟨b, off, none⟩) n c) := iCells0 (HSK.out _ hS).rL; go_simp; (try with_reducible rfl)
     simp only [Act.put, pu1, pu2, pu3, pu4, pu5, pu6]
     refine tkY 11 19 ?_ rfl ?_ hH0 ?_
     rotate_left
     ·intro wS hS; go_simp; (try with_reducible rfl)
     simp only [Act.put, pu1, pu2, pu3, pu4, pu5, pu6]
     refine tkY 12 19 ?_ rfl ?_ hH0 ?_
     rotate_left
     ·intro wS hS; go_simp; (try with_reducible rfl)
     simp only [Act.put, pu1, pu2, pu3, pu4, pu5, pu6]
     refine tkV 13 19 (.agg #[.int .i64 pk.1, .string pk.2, .string pk.3, .string pk.4, .string pk.5, .int .i64 pk.6.1, .string pk.6.2, .string pk.6.3, .string pk.6.4, .string pk.6.5, .string pk.6.6, .bool pk.6.7, .int .i64 pk.7, .string pk.8, .string pk.9]) rfl (by exact yieldsIf_load_mid (by rfl) 39 (.tmp 31) rfl b (off + k * 15) rfl [.int .i64 pk.1, .string pk.2, .string pk.3, .string pk.4, .string pk.5, .int .i64 pk.6.1, .string pk.6.2, .string pk.6.3, .string pk.6.4, .string pk.6.5, .string pk.6.6, .bool pk.6.7, .int .i64 pk.7, .string pk.8, .string pk.9] _ (fun X hX => HRK.out X hX) Try.underlying39 rfl (by kernel_rfl)) hH0 ?_
     simp only [Act.put, pu1, pu2, pu3, pu4, pu5, pu6]
     refine onY 14 (by rfl) fun K hK => ?_
     go_simp
     refine (commute_any pi pk HWI.out.1 HWK.out.1 HWI.out.2 HWK.out.2 cm HCM.out u0).mono ?_
     rintro e u1 ⟨rfl, hx1⟩
     have hH1 := hH0.trans (hx1.mono hH0.size)
     refine hK.out _ _ (Or.inr hH1) ?_
     clear hK K hx1 hH0
     try simp only [Act.put, pu1, pu2, pu3, pu4, pu5, pu6]
     refine tkY 15 19 ?_ rfl ?_ hH1 ?_
     rotate_left
     ·intro wS hS; go_simp; (try with_reducible rfl)
     simp only [Act.put, pu1, pu2, pu3, pu4, pu5, pu6]
     refine tkY 16 19 ?_ rfl ?_ hH1 ?_
     rotate_left
     ·intro wS hS; go_simp; (try with_reducible rfl)
     simp only [Act.put, pu1, pu2, pu3, pu4, pu5, pu6]
     refine dnY ?_
     cases cm with
     | true =>
      go_wp2_with (fail)
      go_roundw
      case rel => exact ⟨k + 1, by omega, by go_num, hide (GrQ.skip HS.out HV.out HUU.out HFF.out HNN.out hH1 (.inr HCI.out))⟩
      case measure => simp [intOf]; omega
     | false =>
      have cV : u1.cell? ⟨g + 4, 0, none⟩ = some (.func (.func 33) #[] #[.pointer (some ⟨g + 2, 0, none⟩), .pointer (some ⟨g + 3, 0, none⟩), .pointer (some ⟨g, 0, none⟩), .pointer (some ⟨g + 4, 0, none⟩)]) := iCells0 (HSK.out _ hH1).rV
      go_wp2_with (fail)
      clear cV
      have hSu := HSK.out _ hH1
      have hVu := HV.out
      have hUu := HUU.out
      have hunl : Dg.unseen S' ≤ m := by
       have h1 := HV.out.unseen
       have h2 := HU.out
       omega
      have hGl : (G ++ add).length + Dg.unseen S' ≤ n := by
       have h1 := HG.out
       have h2 := HUU.out
       rw [List.length_append]
       omega
      refine (IH.out S' v' (G ++ add) k u1 hunl hVu.len' hlt HSKD.out hGl hSu).mono ?_
      rintro e u2 ⟨rfl, hq⟩
      have HQ2 := hide (GrQ.visit HS.out HV.out HUU.out HFF.out HNN.out hH1 HCI.out hq)
      clear hSu hVu hUu hunl hGl hq
      go_wp2_with (fail)
      go_roundw
      case rel => exact ⟨k + 1, by omega, by go_num, HQ2⟩
      case measure => simp [intOf]; omega
   ·obtain rfl : k = n := by omega
    go_wp2
    go_end0
    exact ⟨rfl, HQ.out⟩
end Go.Proofs.Ytgmimhgeigbpkaa
/- Groups of package commute. No conditions but those that each theorem states. -/
namespace Go.Proofs.Ytgmimhgeigbpkaa
open Go Go.RowKit Go.Sort Go.Maps
/-- slices.Sort of whole numbers of the call's own. -/
theorem sortI_any (B : Nat) (v : Value) (l : List Int) (w : World) (h : w.ownsRow B 3 1 v l.length (l.map (Value.int .i64))) (hB : B ≤ w.heap.size) (hl : l.length ≤ 1048576) :
  Calls Try.prog 35 #[v] w fun e w' => e = .returned (.tuple #[]) ∧ ((l = [] ∧ v = .slice none 0 0) ∨ ∃ g c, v = .slice (some ⟨g, 0, none⟩) l.length c ∧ g < w'.heap.size ∧ ∀ (j : Nat) (s : Int), (l.mergeSort fun x y => decide (x ≤ y))[j]? = some s → w'.cell? ⟨g, j, none⟩ = some (.int .i64 s)) ∧ Below B w w' ∧ ∀ k, k < w.heap.size → v.ownBlock ≠ some k → w'.heap[k]? = w.heap[k]? := by
 rcases h.2 with ⟨rfl, h0⟩ | ⟨g, cap, cur, rfl, hBg, hg, hc, hm, hcs, htk⟩
 ·obtain rfl : l = [] := List.eq_nil_of_length_eq_zero h0
  refine (Try.slices_Sort_int_none none 0 w).mono ?_
  rintro e w' ⟨rfl, rfl⟩
  exact ⟨rfl, Or.inl ⟨rfl, rfl⟩, Below.refl _ _, fun _ _ _ => rfl⟩
 ·have hlt := lt_of_block hg
  have hcell : ∀ j (s : Int), l[j]? = some s → w.cell? ⟨g, 0 + j, none⟩ = some (.int .i64 s) := fun j s hj => by
   rw [Nat.zero_add, cell_of_row _ _ _ _ _ (0, 0) hg, ← Array.getElem?_toList]
   have h1 : (l.map (Value.int .i64))[j]? = some (.int .i64 s) := by rw [List.getElem?_map, hj]; rfl
   rw [← htk, List.getElem?_take] at h1
   split at h1
   ·exact h1
   ·cases h1
  have hH : Holds (Value.int .i64) w g 0 l.toArray := fun j hj => by
   have hj' : j < l.length := by simpa using hj
   refine ⟨?_, frozen_of_row _ _ _ _ _ hg⟩
   rw [hcell j l[j] (List.getElem?_eq_getElem hj'), getElem!_pos l.toArray j hj]
   simp
  refine (Try.slices_Sort_int g 0 cap l w hH hlt (by omega)).mono ?_
  rintro e w' ⟨rfl, n, os, rfl⟩
  have hsz : (l.mergeSort fun x y => decide (x ≤ y)).toArray.size = l.toArray.size := by simp
  refine ⟨rfl, Or.inr ⟨g, cap, rfl, ?_, fun j s hj => ?_⟩, ?_, fun k hk hne => ?_⟩
  ·show g < ((putRow (Value.int .i64) (Sort.ahead w n) g 0 _).heap ++ os).size
   rw [Array.size_append, size_putRow]
   exact Nat.lt_of_lt_of_le hlt (Nat.le_add_right _ _)
  ·have hjl : j < (l.mergeSort fun x y => decide (x ≤ y)).toArray.size := by
    rw [List.size_toArray]; exact (List.getElem?_eq_some_iff.1 hj).1
   have h1 := (holds_putRow (Value.int .i64) (Sort.ahead w n) g 0 l.toArray (l.mergeSort fun x y => decide (x ≤ y)).toArray (holds_ahead _ _ _ _ _ _ hH) hsz j hjl).1
   rw [Nat.zero_add] at h1
   have h2 : (l.mergeSort fun x y => decide (x ≤ y)).toArray[j]! = s := by
    rw [getElem!_pos _ j hjl]
    have := (List.getElem?_eq_some_iff.1 hj).2
    simpa using this
   rw [h2] at h1
   refine (World.cell?_of_block ?_).trans h1
   show ((putRow (Value.int .i64) (Sort.ahead w n) g 0 _).heap ++ os)[g]? = _
   rw [Array.getElem?_append_left (by rw [size_putRow]; exact hlt)]
  ·refine ⟨rfl, rfl, rfl, ?_, fun k hk => ?_⟩
   ·show w.heap.size ≤ ((putRow (Value.int .i64) (Sort.ahead w n) g 0 _).heap ++ os).size
    rw [Array.size_append, size_putRow]
    exact Nat.le_add_right _ _
   ·show ((putRow (Value.int .i64) (Sort.ahead w n) g 0 _).heap ++ os)[k]? = w.heap[k]?
    rw [Array.getElem?_append_left (by rw [size_putRow]; show k < w.heap.size; omega)]
    show (w.heap.modify g _)[k]? = _
    rw [Array.getElem?_modify, if_neg (by omega)]
  ·show ((putRow (Value.int .i64) (Sort.ahead w n) g 0 _).heap ++ os)[k]? = w.heap[k]?
   rw [Array.getElem?_append_left (by rw [size_putRow]; exact hk)]
   show (w.heap.modify g _)[k]? = _
   rw [Array.getElem?_modify, if_neg (fun e => hne (by rw [e]; rfl))]
/-- The header of a slice. -/
structure SH where
 a : Option Addr
 n : Nat
 c : Nat
def sL : Lay SH := ⟨fun h => [.slice h.a h.n h.c], 1, fun _ => rfl, fun x u hu => by
 obtain rfl := List.mem_singleton.1 hu
 rfl⟩
theorem sInfo : (Try.prog.info? 59).map (fun i => (i.zero, i.size, i.bytes)) = some (some (.slice none 0 0), 1, 24) := by kernel_rfl
theorem bInfo : (Try.prog.info? 4).map (fun i => (i.zero, i.size, i.bytes)) = some (some (.bool false), 1, 1) := by kernel_rfl
theorem made_bools (n : Nat) : madeCells #[.bool false] n = boolsV (List.replicate n false) := by
 unfold madeCells boolsV
 apply Array.ext
 ·simp
 ·intro i h1 h2
  simp [Nat.mod_one]
/-- A group in memory, behind block lo, apart from what block O holds. -/
def GrpAt (X : World) (O : Option Nat) (lo : Nat) (h : SH) (gr : List Nat) : Prop :=
 h.n = gr.length ∧ gr.length ≤ h.c ∧ ∃ b, h.a = some ⟨b, 0, none⟩ ∧ lo ≤ b ∧ b < X.heap.size ∧ some b ≠ O ∧ ∀ (j s : Nat), gr[j]? = some s → X.cell? ⟨b, j, none⟩ = some (.int .i64 (s : Int))
def GsAt (X : World) (O : Option Nat) (lo : Nat) (hs : List SH) (gs : List (List Nat)) : Prop := hs.length = gs.length ∧ ∀ (j : Nat) (h : SH) (gr : List Nat), hs[j]? = some h → gs[j]? = some gr → GrpAt X O lo h gr
theorem GrpAt.keep {X Y : World} {O O' : Option Nat} {lo : Nat} {h : SH} {gr : List Nat} (hg : GrpAt X O lo h gr) (hz : X.heap.size ≤ Y.heap.size) (hk : ∀ b, lo ≤ b → b < X.heap.size → some b ≠ O → Y.heap[b]? = X.heap[b]?) (hO : DrN X.heap.size O O') : GrpAt Y O' lo h gr := by
 obtain ⟨h1, h2, b, h3, h4, h5, h6, h7⟩ := hg
 refine ⟨h1, h2, b, h3, h4, by omega, fun e => ?_, fun j s hj => (World.cell?_of_block (a := ⟨b, j, none⟩) (hk b h4 h5 h6)).trans (h7 j s hj)⟩
 rcases hO with rfl | ⟨q, e2, hq⟩
 ·exact h6 e
 ·rw [e2] at e
  injection e with e
  omega
theorem GsAt.keep {X Y : World} {O O' : Option Nat} {lo : Nat} {hs : List SH} {gs : List (List Nat)} (hg : GsAt X O lo hs gs) (hz : X.heap.size ≤ Y.heap.size) (hk : ∀ b, lo ≤ b → b < X.heap.size → some b ≠ O → Y.heap[b]? = X.heap[b]?) (hO : DrN X.heap.size O O') : GsAt Y O' lo hs gs :=
 ⟨hg.1, fun j h gr hj hgj => (hg.2 j h gr hj hgj).keep hz hk hO⟩
theorem GsAt.lower {X : World} {O : Option Nat} {lo lo' : Nat} {hs : List SH} {gs : List (List Nat)} (hg : GsAt X O lo hs gs) (h : lo' ≤ lo) : GsAt X O lo' hs gs :=
 ⟨hg.1, fun j k gr hj hgj => by
  obtain ⟨h1, h2, b, h3, h4, h5⟩ := hg.2 j k gr hj hgj
  exact ⟨h1, h2, b, h3, by omega, h5⟩⟩
theorem GsAt.push {X : World} {O : Option Nat} {lo : Nat} {hs : List SH} {gs : List (List Nat)} (hg : GsAt X O lo hs gs) {h : SH} {gr : List Nat} (hn : GrpAt X O lo h gr) : GsAt X O lo (hs ++ [h]) (gs ++ [gr]) := by
 refine ⟨by rw [List.length_append, List.length_append, hg.1]; rfl, fun j h' gr' hj hgj => ?_⟩
 by_cases hlt : j < hs.length
 ·rw [List.getElem?_append_left hlt] at hj
  rw [List.getElem?_append_left (by rw [← hg.1]; exact hlt)] at hgj
  exact hg.2 j h' gr' hj hgj
 ·rw [List.getElem?_append_right (by omega)] at hj
  rw [List.getElem?_append_right (by rw [← hg.1]; omega), ← hg.1] at hgj
  obtain ⟨k, hk⟩ : ∃ k, j - hs.length = k := ⟨_, rfl⟩
  rw [hk] at hj hgj
  cases k with
  | zero =>
   cases hj
   cases hgj
   exact hn
  | succ k => simp at hj
theorem zflat (G : List Nat) : zL.flat G = (G.map Int.ofNat).map (Value.int .i64) := by
 induction G with
 | nil => rfl
 | cons x G ih =>
  rw [zL.flat_cons, ih]
  rfl
/-- The indices in order. -/
def sortN (G : List Nat) : List Nat := G.mergeSort fun x y => decide (x ≤ y)
theorem sortN_int (G : List Nat) : (G.map Int.ofNat).mergeSort (fun x y => decide (x ≤ y)) = (sortN G).map Int.ofNat := by
 unfold sortN
 exact (List.map_mergeSort (fun a _ b _ => by
  rw [decide_eq_decide]
  exact Int.ofNat_le.symm)).symm
theorem sortN_perm (G : List Nat) : (sortN G).Perm G := List.mergeSort_perm ..
theorem sortN_sorted (G : List Nat) : (sortN G).Pairwise (· ≤ ·) := by
 have h := List.pairwise_mergeSort (le := fun x y : Nat => decide (x ≤ y)) (fun a b c h1 h2 => by simp only [decide_eq_true_eq] at h1 h2 ⊢; omega) (fun a b => by simp only [Bool.or_eq_true, decide_eq_true_eq]; omega) G
 exact h.imp fun {a b} h => of_decide_eq_true h
/-- slices.Sort of a group. -/
theorem sort_own (B : Nat) (G : List Nat) (b cap gl : Nat) (hG : G ≠ []) (w : World) (h : Own1 zL 3 w B (.slice (some ⟨b, 0, none⟩) gl cap) G) (hB : B ≤ w.heap.size) (hl : G.length ≤ 1048576) :
  Calls Try.prog 35 #[.slice (some ⟨b, 0, none⟩) gl cap] w fun e w' => e = .returned (.tuple #[]) ∧ (b < w'.heap.size ∧ ∀ (j s : Nat), (sortN G)[j]? = some s → w'.cell? ⟨b, j, none⟩ = some (.int .i64 (s : Int))) ∧ Below B w w' ∧ ∀ k, k < w.heap.size → k ≠ b → w'.heap[k]? = w.heap[k]? := by
 have h' := h
 unfold Own1 at h'
 rw [zflat] at h'
 refine (sortI_any B _ (G.map Int.ofNat) w (by rw [List.length_map]; exact h') hB (by rw [List.length_map]; exact hl)).mono ?_
 rintro e w' ⟨he, h1, h2, h3⟩
 refine ⟨he, ?_, h2, fun k hk hne => h3 k hk (fun e => hne (by injection e with e; exact e.symm))⟩
 rcases h1 with ⟨h4, _⟩ | ⟨g, c, h4, h5, h6⟩
 ·exact absurd (List.map_eq_nil_iff.1 h4) hG
 ·injection h4 with h4 _ _
  injection h4 with h4
  injection h4 with h4 _ _
  subst h4
  refine ⟨h5, fun j s hj => h6 j (s : Int) ?_⟩
  rw [sortN_int, List.getElem?_map, hj]
  rfl
/-- The variables of Groups between two searches. -/
structure GrB (g : Nat) (A : Option Addr) (n c : Nat) (S : List Bool) (l : List Dg.Pt) (X : World) : Prop where
 rL : X.heap[g]? = some (.cells #[.slice A n c] 28 (0, 0))
 rs : X.heap[g + 1]? = some (.cells (boolsV S) 4 (0, 0))
 rS : X.heap[g + 2]? = some (.cells #[.slice (some ⟨g + 1, 0, none⟩) n n] 74 (0, 0))
 rG : ∃ v, X.heap[g + 3]? = some (.cells #[v] 59 (0, 0))
 rV : X.heap[g + 4]? = some (.cells #[.func (.func 33) #[] #[.pointer (some ⟨g + 2, 0, none⟩), .pointer (some ⟨g + 3, 0, none⟩), .pointer (some ⟨g, 0, none⟩), .pointer (some ⟨g + 4, 0, none⟩)]] 75 (0, 0))
 row : Row1 ptL X g A l
theorem GrB.turn {g : Nat} {A : Option Addr} {n c : Nat} {S : List Bool} {l : List Dg.Pt} {X Y : World} (h : GrB g A n c S l X) (hk : ∀ k, k ≤ g + 4 → Y.heap[k]? = X.heap[k]?) : GrB g A n c S l Y := by
 obtain ⟨v, hv⟩ := h.rG
 exact ⟨(hk g (by omega)).trans h.rL, (hk _ (by omega)).trans h.rs, (hk _ (by omega)).trans h.rS, ⟨v, (hk _ (by omega)).trans hv⟩, (hk _ (by omega)).trans h.rV, row_blocks h.row fun b hb => hk b (by omega)⟩
theorem GrS.base {g : Nat} {A : Option Addr} {n c : Nat} {l : List Dg.Pt} {S : List Bool} {v : Value} {G : List Nat} {X : World} (h : GrS g A n c l S v G X) : GrB g A n c S l X := ⟨h.rL, h.rs, h.rS, ⟨v, h.rG⟩, h.rV, h.row⟩
theorem GrB.fresh {g : Nat} {A : Option Addr} {n c : Nat} {l : List Dg.Pt} {S : List Bool} {X : World} (h : GrB g A n c S l X) : GrS g A n c l S (.slice none 0 0) [] (X.setRow (g + 3) #[.slice none 0 0]) := by
 obtain ⟨v, hv⟩ := h.rG
 exact ⟨(setRow_other X (g + 3) g _ (by omega)).trans h.rL, (setRow_other X (g + 3) (g + 1) _ (by omega)).trans h.rs, (setRow_other X (g + 3) (g + 2) _ (by omega)).trans h.rS, setRow_heap X (g + 3) _ _ _ _ hv, (setRow_other X (g + 3) (g + 4) _ (by omega)).trans h.rV, Own1.nil _ _ _ _, row_blocks h.row fun b hb => setRow_other X (g + 3) b _ (by omega)⟩
theorem GrB.top {g : Nat} {A : Option Addr} {n c : Nat} {S : List Bool} {l : List Dg.Pt} {X : World} (h : GrB g A n c S l X) : g + 4 < X.heap.size := lt_of_block h.rV
/-- What Groups has found of the first i indices. -/
structure GlQ (g : Nat) (A : Option Addr) (n c : Nat) (l : List Dg.Pt) (w : World) (vo : Value) (i : Nat) (S : List Bool) (hs : List SH) (gs : List (List Nat)) (X : World) : Prop where
 base : GrB g A n c S l X
 own : Own1 sL 59 X (g + 5) vo hs
 at_ : GsAt X vo.ownBlock (g + 5) hs gs
 inv : Dg.GInv (Dg.commI l) n S gs i
 up : Below g w X
theorem Dg.GInv.small {C : Nat → Nat → Bool} {n : Nat} {S : List Bool} {gs : List (List Nat)} {i : Nat} (h : Dg.GInv C n S gs i) : gs.length ≤ n := by
 have hnd : gs.flatten.Nodup := by
  unfold List.Nodup
  rw [List.pairwise_flatten]
  exact ⟨fun g hg => (h.sorted g hg).imp fun {a b} hab => by omega, h.apart.imp fun {a b} hab x hx y hy => (hab x hx y hy).1⟩
 have h1 := Dg.nodup_len gs.flatten (List.range n) hnd fun a ha => by
  obtain ⟨g, hg, hag⟩ := List.mem_flatten.1 ha
  exact List.mem_range.2 (h.lt g hg a hag)
 rw [List.length_range] at h1
 have h2 : ∀ xs : List (List Nat), (∀ g ∈ xs, g ≠ []) → xs.length ≤ xs.flatten.length := by
  intro xs
  induction xs with
  | nil => intro _; simp
  | cons g r ih =>
   intro hx
   have h3 := ih fun k hk => hx k (List.mem_cons_of_mem _ hk)
   have h4 : 0 < g.length := List.length_pos_iff.2 (hx g (List.mem_cons_self ..))
   rw [List.flatten_cons, List.length_append, List.length_cons]
   omega
 exact Nat.le_trans (h2 gs h.some) h1
theorem unseen_len (S : List Bool) : Dg.unseen S ≤ S.length := List.countP_le_length
theorem alloc5 (w : World) (A B C D E : Obj) : (((((w.alloc A).alloc B).alloc C).alloc D).alloc E).heap[w.heap.size]? = some A ∧ (((((w.alloc A).alloc B).alloc C).alloc D).alloc E).heap[w.heap.size + 1]? = some B ∧ (((((w.alloc A).alloc B).alloc C).alloc D).alloc E).heap[w.heap.size + 1 + 1]? = some C ∧
  (((((w.alloc A).alloc B).alloc C).alloc D).alloc E).heap[w.heap.size + 1 + 1 + 1]? = some D ∧ (((((w.alloc A).alloc B).alloc C).alloc D).alloc E).heap[w.heap.size + 1 + 1 + 1 + 1]? = some E ∧ Below w.heap.size w (((((w.alloc A).alloc B).alloc C).alloc D).alloc E) := by
 obtain ⟨r1, r2, r3, hb, hs⟩ := iAlloc3 w A B C
 obtain ⟨q1, q2, hb2, _⟩ := iAlloc2 (((w.alloc A).alloc B).alloc C) D E
 rw [hs] at q1 q2
 exact ⟨iNext r1 hb2, iNext r2 hb2, iNext r3 hb2, q1, q2, bnext hb hb2⟩
theorem base_seen {g : Nat} {A : Option Addr} {n c : Nat} {S : List Bool} {l : List Dg.Pt} {X : World} (h : GrB g A n c S l X) {k : Nat} (hk : k < S.length) : X.cell? ⟨g + 1, k, none⟩ = some (.bool (S.getD k false)) := by
 rw [cell_of_row _ _ _ _ _ (0, 0) h.rs, ← Array.getElem?_toList]
 simp [boolsV, List.getD_eq_getElem?_getD, hk]
set_option maxRecDepth 100000 in
set_option maxHeartbeats 16000000 in
theorem groups_of (l : List Dg.Pt) (A : Option Addr) (n c : Nat) (hl : l.length = n) (hn : n ≤ 1048576) (hnc : n ≤ c) (hw : ∀ p ∈ l, PtW p ∧ p.kind ≠ 2) (w : World) (hR : Row1 ptL w w.heap.size A l) :
  Calls Try.prog 13 #[.slice A n c] w fun e w' => (∃ v hs gs S, e = .returned v ∧ Own1 sL 59 w' w.heap.size v hs ∧ GsAt w' v.ownBlock w.heap.size hs gs ∧ Dg.GInv (Dg.commI l) n S gs n) ∧ Below w.heap.size w w' := by
 have hmk := run_make_row' (P := Try.prog) 74 4 (.bool false) 1 Try.underlying74 bInfo rfl .i64 .i64 n (by omega) (by omega)
 have hmf : ∀ (fn : Fn) (first cap : Array Value) (w : World), (Instr.makeFunc fn first cap).run Try.prog w = .ok (.func fn first cap) w := fun _ _ _ _ => rfl
 rw [made_bools] at hmk
 have HL := hide hl; have HW := hide hw
 clear hl hw
 have cl := iCells0 (heap_alloc_new w (.cells #[.slice A n c] 28))
 obtain ⟨g, hg⟩ : ∃ g, g = w.heap.size := ⟨_, rfl⟩
 go_enter Try.func13, Try.ntmps13
 go_upto_region 6 with (fail)
 obtain ⟨q0, q1, q2, q3, q4, hbq⟩ := alloc5 w (.cells #[.slice A n c] 28) (.cells (boolsV (List.replicate n false)) 4) (.cells #[.slice (some ⟨w.heap.size + 1, 0, none⟩) n n] 74) (.cells #[.slice none 0 0] 59) (.cells #[.func (.func 33) #[] #[.pointer (some ⟨w.heap.size + 1 + 1, 0, none⟩), .pointer (some ⟨w.heap.size + 1 + 1 + 1, 0, none⟩), .pointer (some ⟨w.heap.size, 0, none⟩), .pointer (some ⟨w.heap.size + 1 + 1 + 1 + 1, 0, none⟩)]] 75)
 generalize ((((w.alloc (.cells #[.slice A n c] 28)).alloc (.cells (boolsV (List.replicate n false)) 4)).alloc (.cells #[.slice (some ⟨w.heap.size + 1, 0, none⟩) n n] 74)).alloc (.cells #[.slice none 0 0] 59)).alloc (.cells #[.func (.func 33) #[] #[.pointer (some ⟨w.heap.size + 1 + 1, 0, none⟩), .pointer (some ⟨w.heap.size + 1 + 1 + 1, 0, none⟩), .pointer (some ⟨w.heap.size, 0, none⟩), .pointer (some ⟨w.heap.size + 1 + 1 + 1 + 1, 0, none⟩)]] 75) = w7 at *
 have e4 : w.heap.size + 1 + 1 + 1 + 1 = g + 4 := by omega
 have e3 : w.heap.size + 1 + 1 + 1 = g + 3 := by omega
 have e2 : w.heap.size + 1 + 1 = g + 2 := by omega
 have e1 : w.heap.size + 1 = g + 1 := by omega
 rw [e4] at q4 ⊢
 rw [e3] at q3 q4 ⊢
 rw [e2] at q2 q4 ⊢
 rw [e1] at q1 q2 ⊢
 rw [← hg] at q0 q4 hbq hR ⊢
 have hB7 : GrB g A n c (List.replicate n false) l w7 := ⟨q0, q1, q2, ⟨_, q3⟩, q4, hR.below hbq⟩
 have HQ0 := hide (show GlQ g A n c l w (.slice none 0 0) 0 (List.replicate n false) [] [] w7 from ⟨hB7, Own1.nil _ _ _ _, ⟨rfl, fun j h gr hj _ => by cases hj⟩, Dg.GInv.start _ _, hbq⟩)
 have c7 := iCells0 q0
 have HG := hide hg
 have hgl : w.heap.size ≤ g := by omega
 clear q0 q1 q2 q3 q4 e1 e2 e3 e4 hB7 hbq hmk hmf hR cl hg
 go_wp2_with (fail)
 clear c7
 go_loopw [3, 14] (fun vo iv wr => ∃ (i : Nat) (S : List Bool) (hs : List SH) (gs : List (List Nat)), i ≤ n ∧ iv = .int .i64 i ∧ Hid (GlQ g A n c l w vo i S hs gs wr)) (fun _ iv _ => n - (intOf iv).toNat)
 case atStart => exact ⟨0, _, _, _, Nat.zero_le _, rfl, HQ0⟩
 case round =>
  clear HQ0
  obtain ⟨i, S, hs, gs, hi, rfl, HQ⟩ := hrel
  by_cases hlt : i < n
  ·have hQb := HQ.out.base
   have htop := hQb.top
   have hSl : S.length = n := HQ.out.inv.len
   have c2 := iCells0 hQb.rS
   have c1 := base_seen hQb (k := i) (by omega)
   obtain ⟨sk, hsk⟩ : ∃ sk, S.getD i false = sk := ⟨_, rfl⟩
   rw [hsk] at c1
   have i0 : (0 : Int) ≤ (i : Int) := by omega
   have i1 : (i : Int) < (n : Int) := by omega
   have HSL := hide hSl
   have HSK := hide hsk
   clear hSl hsk
   cases sk with
   | true =>
    clear hQb
    go_wp2_with (fail)
    go_roundw
    case rel => exact ⟨i + 1, S, hs, gs, by omega, by go_num, hide ⟨HQ.out.base, HQ.out.own, HQ.out.at_, HQ.out.inv.skip HSK.out, HQ.out.up⟩⟩
    case measure => simp [intOf]; omega
   | false =>
    obtain ⟨v0, rG⟩ := hQb.rG
    have hsc : wr.setCell ⟨g + 3, 0, none⟩ (.slice none 0 0) = wr.setRow (g + 3) #[.slice none 0 0] := setCell_eq_setRow wr (g + 3) 0 #[v0] 59 (0, 0) (.slice none 0 0) rG
    have hS1 := hQb.fresh
    have cg := iCells0 rG
    have hfz : wr.frozen? ⟨g + 3, 0, none⟩ = false := frozen_of_row _ _ _ _ _ rG
    go_upto_region 11 with (fail)
    have hz1 : (wr.setRow (g + 3) #[.slice none 0 0]).heap.size = wr.heap.size := size_setRow ..
    have hk1 : ∀ k, k ≠ g + 3 → (wr.setRow (g + 3) #[.slice none 0 0]).heap[k]? = wr.heap[k]? := fun k hk => setRow_other wr (g + 3) k _ hk
    have hb1 : Below g wr (wr.setRow (g + 3) #[.slice none 0 0]) := below_setRow (Below.refl _ _) (by omega) _
    have HZ1 := hide hz1; have HK1 := hide hk1; have HB1 := hide hb1
    clear hsc rG cg hfz c1 c2 hQb hz1 hk1 hb1
    generalize wr.setRow (g + 3) #[.slice none 0 0] = w1 at *
    have cV := iCells0 hS1.rV
    go_wp2_with (fail)
    clear cV
    have hun : Dg.unseen S ≤ n := by have := unseen_len S; have := HSL.out; omega
    refine (visit_any g A n c l HL.out hn hnc HW.out (Dg.unseen S) S (.slice none 0 0) [] i w1 (Nat.le_refl _) HSL.out hlt HSK.out (by rw [List.length_nil]; omega) hS1).mono ?_
    rintro e w2 ⟨rfl, S2, add, v2, hS2, hV2, hU2, hF2, hN2⟩
    rw [List.nil_append] at hS2
    have hne : add ≠ [] := fun e => by
     have := hV2.has
     rw [e] at this
     cases this
    have hal : add.length ≤ n := hV2.small
    obtain ⟨b7, c7, sp7, hv7, hB7, hlt7, hrow7, hcap7, _, _⟩ := hS2.own.form (List.length_pos_iff.2 hne)
    obtain ⟨al, hal2⟩ : ∃ al, add.length = al := ⟨_, rfl⟩
    rw [hal2] at hv7 hal hcap7
    subst hv7
    have cG := iCells0 hS2.rG
    have htop2 := hS2.top
    have hz2 := hF2.below.size
    have hF2b := hF2.below
    have HV2 := hide hV2; have HS2 := hide hS2; have HF2 := hide hF2; have HAL := hide hal2; have HNE := hide hne
    have hb7 : w1.heap.size ≤ b7 := by
     rcases hN2 with h | ⟨q, h, hq⟩
     ·cases h
     ·have h' : b7 = q := by injection h
      omega
    clear hV2 hU2 hN2 hrow7 hS1 hun hal2 hne
    go_wp2_with (fail)
    refine (sort_own (g + 5) add b7 c7 al HNE.out w2 HS2.out.own (by omega) (by rw [HAL.out]; omega)).mono ?_
    rintro e w3 ⟨rfl, ⟨hlt3, hc3⟩, hb3, hk3⟩
    have hkw : ∀ k, k < wr.heap.size → k ≠ g + 1 → k ≠ g + 3 → w3.heap[k]? = wr.heap[k]? := fun k hk k1 k3 => by
     have hkz : k < w1.heap.size := by rw [HZ1.out]; exact hk
     have h9 := HF2.out.keep k hkz k1 k3 (fun e => by cases e)
     by_cases hkb : k = b7
     ·exfalso
      have := HZ1.out
      omega
     ·exact (hk3 k (by omega) hkb).trans (h9.trans (HK1.out k k3))
    have hBw : Below g wr w3 := (HB1.out.trans (hF2b.mono (by omega))).trans (hb3.mono (by omega)) 
    have hgr : GrpAt w3 u3.ownBlock (g + 5) ⟨some ⟨b7, 0, none⟩, al, c7⟩ (sortN add) := by
     have hlen : (sortN add).length = al := by rw [(sortN_perm add).length_eq, HAL.out]
     refine ⟨hlen.symm, by rw [hlen]; exact hcap7, b7, rfl, hB7, hlt3, fun e => ?_, hc3⟩
     have := (World.ownsRow.lt HQ.out.own b7 e.symm).2
     have := HZ1.out
     omega
    have hfar : ∀ k, k ≤ g + 4 → some k ≠ u3.ownBlock := fun k hk e => by
     have := (World.ownsRow.lt HQ.out.own k e.symm).1
     omega
    have hO3 : Own1 sL 59 w3 (g + 5) u3 hs := own_same HQ.out.own fun k hk => by
     have h9 := World.ownsRow.lt HQ.out.own k hk
     exact hkw k h9.2 (by omega) (by omega)
    have hzw : wr.heap.size ≤ w3.heap.size := hBw.size
    have hG3 : GsAt w3 u3.ownBlock (g + 5) (hs ++ [⟨some ⟨b7, 0, none⟩, al, c7⟩]) (gs ++ [sortN add]) := (HQ.out.at_.keep hzw (fun b hb hlb _ => hkw b hlb (by omega) (by omega)) (.inl rfl)).push hgr
    have hB3 : GrB g A n c S2 l w3 := HS2.out.base.turn fun k hk => hk3 k (by omega) (by omega)
    have cG3 : w3.cell? ⟨g + 3, 0, none⟩ = some (.slice (some ⟨b7, 0, none⟩) al c7) := iCells0 ((hk3 (g + 3) (by omega) (by omega)).trans HS2.out.rG)
    have hI3 := hide (HQ.out.inv.visit HV2.out (sortN_perm add) (sortN_sorted add))
    have hU3 := hide (HQ.out.up.trans hBw)
    have rb : Row1 sL (w3.alloc (.cells #[.slice (some ⟨b7, 0, none⟩) al c7] 59)) (w3.heap.size + 1) (some ⟨w3.heap.size, 0, none⟩) [⟨some ⟨b7, 0, none⟩, al, c7⟩] := ⟨fun _ => ⟨w3.heap.size, 0, rfl, by omega, fun j u hu => by
     rw [Nat.zero_add, cell_of_row _ _ _ _ _ _ (heap_alloc_new w3 _), ← Array.getElem?_toList]
     exact hu⟩⟩
    have hbn := Below.news (Below.refl w3.heap.size w3) (.cells #[.slice (some ⟨b7, 0, none⟩) al c7] 59)
    have ho4 := hO3.below hbn
    have hsz : g + 5 ≤ (w3.alloc (.cells #[.slice (some ⟨b7, 0, none⟩) al c7] 59)).heap.size := by rw [World.size_alloc]; omega
    have hhs : hs.length + 1 ≤ 4294967296 := by
     have h8 : gs.length ≤ n := HQ.out.inv.small
     have := HQ.out.at_.1
     omega
    have HG3 := hide hG3; have HB3 := hide hB3; have HFR := hide hfar
    clear hgr hfar hO3 hG3 hB3 hkw hk3 hc3 hBw hzw
    go_wp2_with (at_builtin; go_loud (refine step_app1 (L := sL) rfl (.tmp 27) (.tmp 29) 46 59 _ 24 rfl Try.underlying46 sInfo rfl (by decide) (g + 5) (w3.heap.size + 1) _ hs [⟨some ⟨b7, 0, none⟩, al, c7⟩] rfl ho4 (some ⟨w3.heap.size, 0, none⟩) 1 1 rfl rfl rb hhs (by decide) hsz ?_))
    intro v5 w5 h1 h2 h3 h4
    have hk5 : ∀ k, k < w3.heap.size → some k ≠ u3.ownBlock → w5.heap[k]? = w3.heap[k]? := fun k hk hne => (h3.block k (by rw [World.size_alloc]; omega) hne).trans (hbn.block k hk)
    have hN5 : DrN w3.heap.size u3.ownBlock v5.ownBlock := by
     rcases h4 with h4 | h4
     ·exact .inl h4
     ·exact .inr ⟨_, h4, by first | omega | (rw [World.size_alloc]; omega)⟩
    have hz5 : w3.heap.size ≤ w5.heap.size := Nat.le_trans hbn.size (by have := h2.size; rw [World.size_alloc]; rw [World.size_alloc] at this; omega)
    have htp := HB3.out.top
    have HQ5 := hide (show GlQ g A n c l w v5 (i + 1) S2 (hs ++ [⟨some ⟨b7, 0, none⟩, al, c7⟩]) (gs ++ [sortN add]) w5 from ⟨HB3.out.turn fun k hk => hk5 k (by omega) (HFR.out k hk), h1, HG3.out.keep hz5 (fun b _ hlb hne => hk5 b hlb hne) hN5, hI3.out, (hU3.out.trans (hbn.mono (by omega))).trans (h2.mono (by omega))⟩)
    clear h1 h2 h3 h4 hk5 hN5 hz5 rb hbn ho4 hsz hhs cG3
    go_wp2_with (fail)
    go_roundw
    case rel => exact ⟨i + 1, _, _, _, by omega, by go_num, HQ5⟩
    case measure => simp [intOf]; omega
  ·obtain rfl : i = n := by omega
   go_wp2_with (fail)
   go_ret
   exact ⟨⟨_, hs, gs, S, rfl, own_weak HQ.out.own (by omega), HQ.out.at_.lower (by omega), HQ.out.inv⟩, HG.out ▸ HQ.out.up⟩
end Go.Proofs.Ytgmimhgeigbpkaa
/- An operation that yields in whatever world is taken first. No conditions. -/
namespace Go.Proofs.Ytgmimhgeigbpkaa
open Go Go.RowKit
section
variable {P : Program} {ops : Array Oper} {Q : Exit → Act → World → Prop} {md : Region.Mode} {S : World → Prop} {k : Nat}
theorem SL_neZ {i : Nat} (hik : i ≠ k) {listed : Array Bool} {w : World} : SL S k (listed.setIfInBounds i true) w ↔ SL S k listed w := by
 unfold SL
 rw [getD_set_ne false hik]
theorem wpAnyL_firstZ {i : Nat} {oi : Oper} {v : Value} (hi : ops[i]? = some oi) (hsel : ∀ (j : Nat) (o : Oper) cs b, ops[j]? = some o → o.op ≠ .select cs b)
  (hQ : ∀ c a w, Q (.panic c) (a.put oi.dst v) w → Q (.panic c) a w) (hik : i ≠ k) :
  ∀ (fuel : Nat) (listed : Array Bool) (a : Act) (w : World),
   (∀ j oj, ops[j]? = some oj → j ≠ i → listed.getD j true = false → (∀ e ∈ oj.after, Region.binds md e = true → e.on ≠ i) → oi.apart ops oj = true) →
   i ∈ Region.ready md ops listed → YieldsIf P ops (fun _ => True) oi v a → SL S k listed w →
   wpAnyL P md ops Q S k fuel (listed.setIfInBounds i true) (a.put oi.dst v) w → wpAnyL P md ops Q S k (fuel + 1) listed a w := by
 intro fuel
 induction fuel with
 | zero =>
  intro listed a w _ hr hy hS H
  refine ⟨fun h => (by rw [h] at hr; cases hr), fun j hj => ?_⟩
  by_cases hji : j = i
  ·subst hji; exact hy.wpOp hi trivial ⟨(SL_neZ hik).2 hS, H⟩
  ·have := ready_mono hj hji
   rw [H.1] at this
   cases this
 | succ fuel ih =>
  intro listed a w hfree hr hy hS H
  refine ⟨fun h => (by rw [h] at hr; cases hr), fun j hj => ?_⟩
  by_cases hji : j = i
  ·subst hji; exact hy.wpOp hi trivial ⟨(SL_neZ hik).2 hS, H⟩
  ·have hiu := getD_false_true (mem_ready.1 hr).1
   have h1 := H.2 j (ready_mono hj hji)
   obtain ⟨hjun, oj, hoj, hall⟩ := mem_ready.1 hj
   have hnot : ∀ e ∈ oj.after, Region.binds md e = true → e.on ≠ i := fun e he hb heq => by
    have h1 := hall e he hb
    rw [heq, hiu] at h1
    cases h1
   have h2 := wpOp_putIf hoj (hfree j oj hoj hji hjun hnot) (fun cs b => hsel i oi cs b hi) (fun cs b => hsel j oj cs b hoj) hQ hy h1
   have hfree' : ∀ n on, ops[n]? = some on → n ≠ i → (listed.setIfInBounds j true).getD n true = false →
     (∀ e ∈ on.after, Region.binds md e = true → e.on ≠ i) → oi.apart ops on = true := fun n on hn hni hun hno => by
    refine hfree n on hn hni ?_ hno
    by_cases hjn : j = n
    ·subst hjn; exact hjun
    ·rw [getD_set_ne true hjn] at hun; exact hun
   refine wpOp_mono (fun a' w' h3 => ?_) h2
   have h4 : SL S k (listed.setIfInBounds j true) w' := by
    have := h3.2.1
    rw [Array.setIfInBounds_comm _ _ (Ne.symm hji)] at this
    exact (SL_neZ hik).1 this
   refine ⟨h4, ih (listed.setIfInBounds j true) a' w' hfree' (ready_mono hr (Ne.symm hji)) h3.1 h4 ?_⟩
   rw [Array.setIfInBounds_comm _ _ hji]
   exact h3.2.2
/-- An operation that yields in whatever world is taken first. -/
theorem wpAnyL_takeZ {i : Nat} {oi : Oper} {v : Value} {fuel : Nat} {listed : Array Bool} {a : Act} {w : World} (hi : ops[i]? = some oi)
  (hs : Region.noSelect ops = true) (hf : Region.free md ops listed i = true) (hr : (Region.ready md ops listed).contains i = true) (hik : i ≠ k)
  (hQ : ∀ c a w, Q (.panic c) (a.put oi.dst v) w → Q (.panic c) a w) (hy : YieldsIf P ops (fun _ => True) oi v a) (hS : SL S k listed w)
  (h : wpAnyL P md ops Q S k fuel (listed.setIfInBounds i true) (a.put oi.dst v) w) : wpAnyL P md ops Q S k (fuel + 1) listed a w :=
 wpAnyL_firstZ hi (Region.noSelect_spec hs) hQ hik fuel listed a w (Region.free_spec hi hf) (by simpa using hr) hy hS h
end
end Go.Proofs.Ytgmimhgeigbpkaa
/- w21Ordered of the law. No conditions but those that each theorem states. -/
namespace Go.Proofs.Ytgmimhgeigbpkaa
open Go Go.RowKit Go.Sort Go.Maps
/-- Bytes: one cell each. -/
def uL : Lay Int := ⟨fun x => [.int .u8 x], 1, fun _ => rfl, fun x u hu => by
 obtain rfl := List.mem_singleton.1 hu
 rfl⟩
/-- An element of one cell goes into a row of the call's own. -/
theorem store_elem1 {α : Type} (L : Lay α) (hk : L.k = 1) {ty T : TypeId} (w : World) (g : Nat) (l : List α) (sp : List Value) (i : Nat) (hi : i < l.length) (y : α) (v : Value) (hc : v.cells.toList = L.C y) (hg : w.heap[g]? = some (.cells (L.flat l ++ sp).toArray T (0, 0))) (hs : (Try.prog.info? ty).map (·.size) = some 1) :
  (Instr.storeAt ty (.pointer (some ⟨g, i, none⟩)) v).run Try.prog w = .ok () (w.setRow g (L.flat (l.set i y) ++ sp).toArray) := by
 have hv1 : v.cells.size = 1 := by rw [← Array.length_toList, hc, L.len, hk]
 refine store_part w g i _ v _ hg (by rw [hv1]; exact hs) ?_ (fun u hu => L.one y u (by rw [← hc]; exact hu)) ?_
 ·rw [hv1, List.size_toArray, List.length_append, L.flat_len, hk]
  omega
 ·show (L.flat l ++ sp).take i ++ v.cells.toList ++ (L.flat l ++ sp).drop (i + v.cells.size) = L.flat (l.set i y) ++ sp
  rw [L.flat_set l i hi y, hc, hv1]
  have h1 : (L.flat l).length = l.length := by rw [L.flat_len, hk, Nat.mul_one]
  rw [List.take_append_of_le_length (by omega), List.drop_append_of_le_length (by omega)]
  have h2 := L.flat_take l i
  have h3 := L.flat_drop l (i + 1)
  rw [hk, Nat.mul_one] at h2 h3
  rw [← h2, ← h3]
  simp only [List.append_assoc]
theorem get_swap {α : Type} (l : List α) (i k : Nat) (hi : i < l.length) (hk : k < l.length) (j : Nat) : ((l.set i l[k]).set k l[i])[j]? = if j = k then some l[i] else if j = i then some l[k] else l[j]? := by
 rw [List.getElem?_set, List.getElem?_set]
 by_cases h1 : k = j
 ·subst h1
  rw [if_pos rfl, if_pos (by rw [List.length_set]; exact hk), if_pos rfl]
 ·rw [if_neg h1, if_neg (show ¬ j = k from fun e => h1 e.symm)]
  by_cases h2 : i = j
  ·subst h2
   rw [if_pos rfl, if_pos hi, if_pos rfl]
  ·rw [if_neg h2, if_neg (show ¬ j = i from fun e => h2 e.symm)]
theorem GsAt.swap {X : World} {O : Option Nat} {lo : Nat} {hs : List SH} {gs : List (List Nat)} (hg : GsAt X O lo hs gs) (i k : Nat) (hi : i < hs.length) (hk : k < hs.length) (hi' : i < gs.length) (hk' : k < gs.length) : GsAt X O lo ((hs.set i hs[k]).set k hs[i]) ((gs.set i gs[k]).set k gs[i]) := by
 refine ⟨by simp only [List.length_set]; exact hg.1, fun j h gr hj hgj => ?_⟩
 rw [get_swap hs i k hi hk] at hj
 rw [get_swap gs i k hi' hk'] at hgj
 by_cases h1 : j = k
 ·rw [if_pos h1] at hj hgj
  cases hj; cases hgj
  exact hg.2 i _ _ (List.getElem?_eq_getElem hi) (List.getElem?_eq_getElem hi')
 ·rw [if_neg h1] at hj hgj
  by_cases h2 : j = i
  ·rw [if_pos h2] at hj hgj
   cases hj; cases hgj
   exact hg.2 k _ _ (List.getElem?_eq_getElem hk) (List.getElem?_eq_getElem hk')
  ·rw [if_neg h2] at hj hgj
   exact hg.2 j h gr hj hgj
theorem row_header {hs : List SH} {sp : List Value} {bo : Nat} {X : World} (hr : X.heap[bo]? = some (.cells (sL.flat hs ++ sp).toArray 59 (0, 0))) {j : Nat} (hj : j < hs.length) : X.cell? ⟨bo, j, none⟩ = some (.slice hs[j].a hs[j].n hs[j].c) := by
 rw [cell_of_row _ _ _ _ _ (0, 0) hr, ← Array.getElem?_toList]
 have h1 := sL.flat_get hs j 0 hs[j] (List.getElem?_eq_getElem hj) (by decide)
 have h2 : j * sL.k + 0 = j := by show j * 1 + 0 = j; omega
 rw [h2] at h1
 show (sL.flat hs ++ sp)[j]? = _
 rw [List.getElem?_append_left (by rw [sL.flat_len]; show j < hs.length * 1; omega), h1]
 rfl
set_option maxRecDepth 100000 in
set_option maxHeartbeats 16000000 in
attribute [-go_sem] Instr.storeAt in
theorem ordered_of (l : List Dg.Pt) (A : Option Addr) (n c : Nat) (hl : l.length = n) (hn : n ≤ 1048576) (hnc : n ≤ c) (hw : ∀ p ∈ l, PtW p ∧ p.kind ≠ 2) (os : List Int) (AO : Option Addr) (no co : Nat) (ho : os.length = no) (hno : no ≤ 1048576) (hos : ∀ x ∈ os, 0 ≤ x ∧ x ≤ 255) (w : World) (hR : Row1 ptL w w.heap.size A l) (hOr : Row1 uL w w.heap.size AO os) :
  Calls Try.prog 7 #[.slice A n c, .slice AO no co] w fun e w' => (∃ (v : Value) (gs gs' : List (List Nat)) (S : List Bool), e = .returned v ∧ Dg.GInv (Dg.commI l) n S gs n ∧ gs'.Perm gs ∧ Own1 ptL 39 w' w.heap.size v (Dg.pickP l gs'.flatten)) ∧ Below w.heap.size w w' := by
 have hmx : Try.prog.follows .mixedOrders = true := by kernel_rfl
 have HL := hide hl; have HW := hide hw; have HOL := hide ho; have HOS := hide hos; have HR := hide hR; have HOO := hide hOr
 clear hl hw ho hos hR hOr
 go_enter Try.func7, Try.ntmps7
 go_wp2_with (fail)
 refine (groups_of l A n c HL.out hn hnc HW.out w HR.out).mono ?_
 rintro e w1 ⟨⟨vo, hs, gs, S, rfl, hown, hat, hinv⟩, hb1⟩
 have hmn : gs.length ≤ n := hinv.small
 obtain ⟨AG, cg, hvo, hrow, hcap⟩ := hown.row
 obtain ⟨m, hm⟩ : ∃ m, hs.length = m := ⟨_, rfl⟩
 have hgm : gs.length = m := by rw [← hat.1]; exact hm
 rw [hm] at hvo
 subst hvo
 have hR1 := HR.out.keep hb1
 have hO1 := HOO.out.keep hb1
 have HINV := hide hinv; have HB1 := hide hb1; have HHM := hide hm; have HGM := hide hgm
 have HRR := hide (HR.out.below hb1); have HRO := hide (HOO.out.below hb1)
 have HOWN := hide hown; have HAT := hide hat
 have hm0 : m ≤ 1048576 := by omega
 clear hinv hb1 hm hgm hR1 hO1 hown hat hrow hcap hmn
 go_upto_block 0 with fail
 go_cut [] from 6 to 47 (fun wx => ∃ hs' gs', gs'.Perm gs ∧ hs'.length = m ∧ GsAt wx (Value.slice AG m cg).ownBlock w.heap.size hs' gs' ∧ Own1 sL 59 wx w.heap.size (.slice AG m cg) hs' ∧ Below w.heap.size w wx)
 case first =>
  go_wp2_with (fail)
  go_loopw [6] (fun iv wr => ∃ (i : Nat) (hs' : List SH) (gs' : List (List Nat)), i ≤ no ∧ iv = .int .i64 i ∧ gs'.Perm gs ∧ hs'.length = m ∧ GsAt wr (Value.slice AG m cg).ownBlock w.heap.size hs' gs' ∧ Own1 sL 59 wr w.heap.size (.slice AG m cg) hs' ∧ Below w.heap.size w wr) (fun iv _ => no - (intOf iv).toNat)
  case atStart => exact ⟨0, hs, gs, Nat.zero_le _, rfl, List.Perm.refl _, HHM.out, HAT.out, HOWN.out, HB1.out⟩
  case round =>
   obtain ⟨i, hs', gs', hi, rfl, hp, hlen, hat, hown, hb⟩ := hrel
   by_cases h1 : (i : Int) < (m : Int)
   ·by_cases h2 : (i : Int) < (no : Int)
    ·have hm1 : 0 < hs'.length := by omega
     obtain ⟨bo, cap, sp, hv, hbo, hbz, hrow, hcp, hcm, hsp⟩ := hown.form hm1
     rw [hlen] at hv
     injection hv with hv1 _ hv3
     subst hv1 hv3
     have hio : i < os.length := by rw [HOL.out]; omega
     obtain ⟨x, hx⟩ : ∃ x, os[i] = x := ⟨_, rfl⟩
     obtain ⟨bq, oq, hAO, hbq, hcell⟩ := (HOO.out.below hb).get hio
     subst hAO
     have cx : wr.cell? ⟨bq, oq + i, none⟩ = some (.int .u8 x) := by
      have := hcell 0 (.int .u8 x) (by decide) (by rw [hx]; rfl)
      have e : oq + i * uL.k + 0 = oq + i := by show oq + i * 1 + 0 = _; omega
      rw [e] at this
      exact this
     obtain ⟨x0, x1⟩ := HOS.out x (by rw [← hx]; exact List.getElem_mem hio)
     have i0 : (0 : Int) ≤ (i : Int) := by omega
     have m0 : ¬ (m : Int) = 0 := by omega
     have HAL := hide hat.1; have HLEN := hide hlen; have HP := hide hp; have HAT2 := hide hat; have HBB := hide hb; have HROW := hide hrow; have HSP := hide hsp
     clear hx hcell hio hown hm1 hp hat hb hrow hsp
     go_upto_region 6 with (fail)
     obtain ⟨z, hz⟩ : ∃ z : Nat, x % (m : Int) = (z : Int) := ⟨(x % (m : Int)).toNat, by rw [Int.toNat_of_nonneg (Int.emod_nonneg _ m0)]⟩
     have hzl : x % (m : Int) < m := Int.emod_lt_of_pos x (by omega)
     have hzm : z < m := by omega
     rw [hz]
     have hzl' : z < hs'.length := by rw [HLEN.out]; exact hzm
     have hil' : i < hs'.length := by rw [HLEN.out]; omega
     obtain ⟨az, nz, cz, ez⟩ : ∃ a n c, hs'[z] = ⟨a, n, c⟩ := ⟨_, _, _, rfl⟩
     obtain ⟨ai, ni, ci, ei⟩ : ∃ a n c, hs'[i] = ⟨a, n, c⟩ := ⟨_, _, _, rfl⟩
     have HEZ := hide (And.intro ez ei)
     have HCZ := hide (fun (X : World) (hX : X.heap[bo]? = some (.cells (sL.flat hs' ++ sp).toArray 59 (0, 0))) => (show X.cell? ⟨bo, z, none⟩ = some (.slice az nz cz) by have := row_header hX hzl'; rw [ez] at this; exact this))
     have HCI := hide (fun (X : World) (hX : X.heap[bo]? = some (.cells (sL.flat hs' ++ sp).toArray 59 (0, 0))) => (show X.cell? ⟨bo, i, none⟩ = some (.slice ai ni ci) by have := row_header hX hil'; rw [ei] at this; exact this))
     have z0 : (0 : Int) ≤ (z : Int) := by omega
     have z1 : (z : Int) < (m : Int) := by omega
     clear hz hzl cx x0 x1 ez ei
     refine wp_region_noPanic ?_
     refine wp_region_L (fun X => X.heap[bo]? = some (.cells (sL.flat hs' ++ sp).toArray 59 (0, 0))) 13 hmx ?_
     have hH0 : (fun X : World => X.heap[bo]? = some (.cells (sL.flat hs' ++ sp).toArray 59 (0, 0))) wr.drew := HROW.out
     have hBd := hide (HBB.out.drew)
     have hAd := hide (HAT2.out.keep (Y := wr.drew) (Nat.le_refl _) (fun _ _ _ _ => rfl) (.inl rfl))
     have hsd : bo < wr.drew.heap.size := hbz
     clear HROW HBB HAT2 hbz
     generalize wr.drew = u0 at *
     refine tkY 0 18 ?_ rfl ?_ hH0 ?_
     rotate_left
     ·intro wS hS; go_simp; (try with_reducible rfl)
     simp only [Act.put, pu1, pu2, pu3, pu4, pu5, pu6]
     refine tkY 1 18 ?_ rfl ?_ hH0 ?_
     rotate_left
     ·intro wS hS; go_simp; (try with_reducible rfl)
     simp only [Act.put, pu1, pu2, pu3, pu4, pu5, pu6]
     refine wpAnyL_takeZ (i := 2) (v := ?_) rfl (by decide +kernel) (by decide +kernel) (by decide +kernel) (by decide) (fun _ _ _ h => h) (Or.inl ⟨by rfl, ?_⟩) (Or.inr hH0) ?_
     rotate_left
     ·intro wS _; go_simp; (try with_reducible rfl)
     simp only [Act.put, pu1, pu2, pu3, pu4, pu5, pu6]
     refine wpAnyL_takeZ (i := 3) (v := ?_) rfl (by decide +kernel) (by decide +kernel) (by decide +kernel) (by decide) (fun _ _ _ h => h) (Or.inl ⟨by rfl, ?_⟩) (Or.inr hH0) ?_
     rotate_left
     ·intro wS _; go_simp; (try with_reducible rfl)
     simp only [Act.put, pu1, pu2, pu3, pu4, pu5, pu6]
     refine tkY 4 18 ?_ rfl ?_ hH0 ?_
     rotate_left
     ·intro wS hS; go_simp; (try with_reducible rfl)
     simp only [Act.put, pu1, pu2, pu3, pu4, pu5, pu6]
     refine tkY 5 18 ?_ rfl ?_ hH0 ?_
     rotate_left
     ·intro wS hS; go_simp; (try with_reducible rfl)
     simp only [Act.put, pu1, pu2, pu3, pu4, pu5, pu6]
     refine tkY 6 18 ?_ rfl ?_ hH0 ?_
     rotate_left
     ·intro wS hS; go_simp; (try with_reducible rfl)
     simp only [Act.put, pu1, pu2, pu3, pu4, pu5, pu6]
     refine tkY 7 18 ?_ rfl ?_ hH0 ?_
     rotate_left
     ·intro wS hS; have c1 : wS.cell? ⟨bo, z, none⟩ = some (.slice az nz cz) := HCZ.out _ hS; go_simp; (try with_reducible rfl)
     simp only [Act.put, pu1, pu2, pu3, pu4, pu5, pu6]
     refine tkY 8 18 ?_ rfl ?_ hH0 ?_
     rotate_left
     ·intro wS hS; go_simp; (try with_reducible rfl)
     simp only [Act.put, pu1, pu2, pu3, pu4, pu5, pu6]
     refine tkY 9 18 ?_ rfl ?_ hH0 ?_
     rotate_left
     ·intro wS hS; go_simp; (try with_reducible rfl)
     simp only [Act.put, pu1, pu2, pu3, pu4, pu5, pu6]
     refine tkY 10 18 ?_ rfl ?_ hH0 ?_
     rotate_left
     ·intro wS hS; go_simp; (try with_reducible rfl)
     simp only [Act.put, pu1, pu2, pu3, pu4, pu5, pu6]
     refine tkY 11 18 ?_ rfl ?_ hH0 ?_
     rotate_left
     ·intro wS hS; have c2 : wS.cell? ⟨bo, i, none⟩ = some (.slice ai ni ci) := HCI.out _ hS; go_simp; (try with_reducible rfl)
     simp only [Act.put, pu1, pu2, pu3, pu4, pu5, pu6]
     refine tkY 12 18 ?_ rfl ?_ hH0 ?_
     rotate_left
     ·intro wS hS; go_simp; (try with_reducible rfl)
     simp only [Act.put, pu1, pu2, pu3, pu4, pu5, pu6]
     refine onY 13 (by rfl) fun K hK => ?_
     have hst1 := store_elem1 (L := sL) rfl (ty := 59) (T := 59) u0 bo hs' sp i hil' ⟨az, nz, cz⟩ (.slice az nz cz) rfl hH0 (by kernel_rfl)
     have g1 := setRow_heap u0 bo _ (sL.flat (hs'.set i ⟨az, nz, cz⟩) ++ sp).toArray _ _ hH0
     go_simp
     refine hK.out _ _ (Or.inl rfl) ?_
     clear hK K hst1 hH0
     have hb1 := hide (below_setRow hBd.out hbo (g := bo) (sL.flat (hs'.set i ⟨az, nz, cz⟩) ++ sp).toArray)
     have ha1 := hide (hAd.out.keep (Y := u0.setRow bo (sL.flat (hs'.set i ⟨az, nz, cz⟩) ++ sp).toArray) (by rw [size_setRow]; exact Nat.le_refl _) (fun b _ _ hne => setRow_other _ _ b _ (fun e => hne (by rw [e]; rfl))) (.inl rfl))
     generalize u0.setRow bo (sL.flat (hs'.set i ⟨az, nz, cz⟩) ++ sp).toArray = u1 at *
     clear hBd hAd
     try simp only [Act.put, pu1, pu2, pu3, pu4, pu5, pu6]
     refine onY 14 (by rfl) fun K hK => ?_
     go_simp
     refine hK.out _ _ (Or.inl rfl) ?_
     clear hK K
     try simp only [Act.put, pu1, pu2, pu3, pu4, pu5, pu6]
     refine onY 15 (by rfl) fun K hK => ?_
     have hst2 := store_elem1 (L := sL) rfl (ty := 59) (T := 59) u1 bo (hs'.set i ⟨az, nz, cz⟩) sp z (by rw [List.length_set]; exact hzl') ⟨ai, ni, ci⟩ (.slice ai ni ci) rfl g1 (by kernel_rfl)
     have g2 := setRow_heap u1 bo _ (sL.flat ((hs'.set i ⟨az, nz, cz⟩).set z ⟨ai, ni, ci⟩) ++ sp).toArray _ _ g1
     go_simp
     refine hK.out _ _ (Or.inl rfl) ?_
     clear hK K hst2 g1
     have hb2 := hide (below_setRow hb1.out hbo (g := bo) (sL.flat ((hs'.set i ⟨az, nz, cz⟩).set z ⟨ai, ni, ci⟩) ++ sp).toArray)
     have ha2 := hide (ha1.out.keep (Y := u1.setRow bo (sL.flat ((hs'.set i ⟨az, nz, cz⟩).set z ⟨ai, ni, ci⟩) ++ sp).toArray) (by rw [size_setRow]; exact Nat.le_refl _) (fun b _ _ hne => setRow_other _ _ b _ (fun e => hne (by rw [e]; rfl))) (.inl rfl))
     generalize u1.setRow bo (sL.flat ((hs'.set i ⟨az, nz, cz⟩).set z ⟨ai, ni, ci⟩) ++ sp).toArray = u2 at *
     clear hb1 ha1
     try simp only [Act.put, pu1, pu2, pu3, pu4, pu5, pu6]
     refine dnY ?_
     have hgz : z < gs'.length := by rw [← HAL.out]; exact hzl'
     have hgi : i < gs'.length := by rw [← HAL.out]; exact hil'
     have HNEW := hide (show ((gs'.set i gs'[z]).set z gs'[i]).Perm gs ∧ ((hs'.set i ⟨az, nz, cz⟩).set z ⟨ai, ni, ci⟩).length = m ∧ GsAt u2 (Value.slice (some ⟨bo, 0, none⟩) m cg).ownBlock w.heap.size ((hs'.set i ⟨az, nz, cz⟩).set z ⟨ai, ni, ci⟩) ((gs'.set i gs'[z]).set z gs'[i]) ∧ Own1 sL 59 u2 w.heap.size (.slice (some ⟨bo, 0, none⟩) m cg) ((hs'.set i ⟨az, nz, cz⟩).set z ⟨ai, ni, ci⟩) ∧ Below w.heap.size w u2 by
      have hl2 : ((hs'.set i ⟨az, nz, cz⟩).set z ⟨ai, ni, ci⟩).length = m := by rw [List.length_set, List.length_set, HLEN.out]
      refine ⟨(Dg.perm_swap gs' i z hgi hgz).trans HP.out, hl2, ?_, ?_, hb2.out⟩
      ·have := ha2.out.swap i z hil' hzl' hgi hgz
       rw [HEZ.out.1, HEZ.out.2] at this
       exact this
      ·have := Own1.mk (L := sL) (e := 59) (B := w.heap.size) (l := (hs'.set i ⟨az, nz, cz⟩).set z ⟨ai, ni, ci⟩) (sp := sp) hbo g2 hcm (by rw [hl2, ← HLEN.out]; exact hcp) (by rw [hl2, ← HLEN.out]; exact HSP.out)
       rw [hl2] at this
       exact this)
     clear g2 hb2 ha2
     go_wp2_with (fail)
     go_roundw
     case rel => exact ⟨i + 1, _, _, by omega, by go_num, HNEW.out⟩
     case measure => simp [intOf]; omega
    ·go_wp2_with (fail)
     go_meet
     case rel => exact ⟨hs', gs', hp, hlen, hat, hown, hb⟩
   ·go_wp2_with (fail)
    go_meet
    case rel => exact ⟨hs', gs', hp, hlen, hat, hown, hb⟩
 case rest =>
  obtain ⟨hs', gs', hp, hlen, hat, hown, hb⟩ := hcut
  rename World => w2
  have hfl : gs'.flatten.length = l.length := Dg.turned_len (show Dg.GrpOk l gs from by
   have := HINV.out
   rw [← HL.out] at this
   exact this.done) hp
  have hlt : ∀ g ∈ gs', ∀ a ∈ g, a < n := fun g hg => HINV.out.lt g (hp.mem_iff.1 hg)
  have hR2 := HR.out.below hb
  have HP := hide hp; have HLEN := hide hlen; have HAT2 := hide hat; have HOWN2 := hide hown; have HBB := hide hb; have HFL := hide hfl; have HLT := hide hlt; have HR2 := hide hR2
  have hw2 := hb.size
  clear hp hlen hat hown hb hfl hlt hR2
  go_wp2_with (fail)
  go_loopw [8, 9] (fun vp iv wr => ∃ i : Nat, i ≤ m ∧ iv = .int .i64 i ∧ Hid (Own1 ptL 39 wr w2.heap.size vp (Dg.pickP l (gs'.take i).flatten)) ∧ Hid (Below w2.heap.size w2 wr)) (fun _ iv _ => m - (intOf iv).toNat)
  case atStart => exact ⟨0, Nat.zero_le _, rfl, hide (Own1.nil _ _ _ _), hide (Below.refl _ _)⟩
  case round =>
   obtain ⟨i, hi, rfl, HOi, HBi⟩ := hrel
   by_cases hlt : i < m
   ·obtain ⟨bo, cap, sp, hv, hbo, hbz, hrow, hcp, hcm, hsp⟩ := HOWN2.out.form (by rw [HLEN.out]; omega)
    rw [HLEN.out] at hv
    injection hv with hv1 _ hv3
    subst hv1 hv3
    have hil' : i < hs'.length := by rw [HLEN.out]; exact hlt
    have hgl : i < gs'.length := by rw [← HAT2.out.1]; exact hil'
    obtain ⟨gr, hgr⟩ : ∃ gr, gs'[i] = gr := ⟨_, rfl⟩
    obtain ⟨ai, ni, ci, ei⟩ : ∃ a n c, hs'[i] = ⟨a, n, c⟩ := ⟨_, _, _, rfl⟩
    obtain ⟨hn1, hn2, bg, ha, hbg1, hbg2, _, hgc⟩ := HAT2.out.2 i _ _ (List.getElem?_eq_getElem hil') (List.getElem?_eq_getElem hgl)
    rw [ei, hgr] at hn1
    rw [ei] at ha
    rw [hgr] at hgc
    have hn1' : ni = gr.length := hn1
    have ha' : ai = some ⟨bg, 0, none⟩ := ha
    subst hn1' ha'
    have HCI := hide (fun (X : World) (hX : Below w2.heap.size w2 X) => (show X.cell? ⟨bo, i, none⟩ = some (.slice (some ⟨bg, 0, none⟩) gr.length ci) by
     have := row_header hrow hil'
     rw [ei] at this
     exact (hX.cell (p := ⟨bo, i, none⟩) hbz).trans this))
    have HGC := hide (fun (X : World) (hX : Below w2.heap.size w2 X) (j s : Nat) (hj : gr[j]? = some s) => (hX.cell (p := ⟨bg, j, none⟩) hbg2).trans (hgc j s hj))
    have hgm : gr ∈ gs' := by rw [← hgr]; exact List.getElem_mem hgl
    have HGL := hide (HLT.out gr hgm)
    have HTK := hide (show (gs'.take (i + 1)).flatten = (gs'.take i).flatten ++ gr by rw [List.take_succ_eq_append_getElem hgl, hgr, List.flatten_append]; simp)
    have HSZ := hide (show (gs'.take i).flatten.length + gr.length ≤ n by
     have h1 : (gs'.take (i + 1)).flatten.length ≤ gs'.flatten.length := by
      conv => rhs; rw [← List.take_append_drop (i + 1) gs', List.flatten_append, List.length_append]
      omega
     rw [HTK.out, List.length_append, HFL.out, HL.out] at h1
     exact h1)
    clear hrow hcp hcm hsp ei hgc ha hn1 hn2 hgm hgr hil' hgl hbz hbg2
    have i0 : (0 : Int) ≤ (i : Int) := by omega
    have i1 : (i : Int) < (m : Int) := by omega
    have hgz : gr.length ≤ n := by have := HSZ.out; omega
    go_upto_block 3 with fail
    go_cut [8] from 54 to 84 (fun v8 wx => Hid (Own1 ptL 39 wx w2.heap.size v8 (Dg.pickP l (gs'.take (i + 1)).flatten)) ∧ Hid (Below w2.heap.size w2 wx))
    case first =>
     go_wp2_with (fail)
     go_loopw [8, 10] (fun vp iv wx => ∃ k : Nat, k ≤ gr.length ∧ iv = .int .i64 k ∧ Hid (Own1 ptL 39 wx w2.heap.size vp (Dg.pickP l ((gs'.take i).flatten ++ gr.take k))) ∧ Hid (Below w2.heap.size w2 wx)) (fun _ iv _ => gr.length - (intOf iv).toNat)
     case atStart => exact ⟨0, Nat.zero_le _, rfl, by rw [List.take_zero, List.append_nil]; exact HOi, HBi⟩
     case round =>
      rename World => wk
      obtain ⟨k, hk, rfl, HOk, HBk⟩ := hrel
      have cg := HCI.out _ HBk.out
      by_cases hkt : k < gr.length
      ·obtain ⟨s, hs1⟩ : ∃ s, gr[k] = s := ⟨_, rfl⟩
       have cs := HGC.out _ HBk.out k s (by rw [List.getElem?_eq_getElem hkt, hs1])
       have hsn : s < n := HGL.out s (by rw [← hs1]; exact List.getElem_mem hkt)
       have hsl : s < l.length := by rw [HL.out]; exact hsn
       obtain ⟨p, hp⟩ : ∃ p, l[s] = p := ⟨_, rfl⟩
       have hRk := HR2.out.below (HBk.out.mono hw2)
       obtain ⟨bp, off, hA⟩ := hRk.someP (by omega)
       subst hA
       have hRP := hide (row_range hRk hsl p hp)
       have hbn := Below.news (Below.refl wk.heap.size wk) (.cells #[.int .i64 p.1, .string p.2, .string p.3, .string p.4, .string p.5, .int .i64 p.6.1, .string p.6.2, .string p.6.3, .string p.6.4, .string p.6.5, .string p.6.6, .bool p.6.7, .int .i64 p.7, .string p.8, .string p.9] 39)
       have ho1 := HOk.out.below hbn
       have rb := row_pat wk p 39
       have hsz : w2.heap.size ≤ (wk.alloc (.cells #[.int .i64 p.1, .string p.2, .string p.3, .string p.4, .string p.5, .int .i64 p.6.1, .string p.6.2, .string p.6.3, .string p.6.4, .string p.6.5, .string p.6.6, .bool p.6.7, .int .i64 p.7, .string p.8, .string p.9] 39)).heap.size := by rw [World.size_alloc]; have := HBk.out.size; omega
       have hln : (Dg.pickP l ((gs'.take i).flatten ++ gr.take k)).length + 1 ≤ 4294967296 := by
        have h1 : (Dg.pickP l ((gs'.take i).flatten ++ gr.take k)).length ≤ ((gs'.take i).flatten ++ gr.take k).length := List.length_filterMap_le _ _
        have h2 := HSZ.out
        rw [List.length_append, List.length_take] at h1
        omega
       have HPS := hide (show Dg.pickP l ((gs'.take i).flatten ++ gr.take (k + 1)) = Dg.pickP l ((gs'.take i).flatten ++ gr.take k) ++ [p] by
        rw [List.take_succ_eq_append_getElem hkt, hs1, ← List.append_assoc]
        unfold Dg.pickP
        rw [List.filterMap_append]
        congr 1
        simp [List.getElem?_eq_getElem hsl, hp])
       have k0 : (0 : Int) ≤ (k : Int) := by omega
       have k1 : (k : Int) < (gr.length : Int) := by omega
       have s0 : (0 : Int) ≤ (s : Int) := by omega
       have s1 : (s : Int) < (n : Int) := by omega
       clear hRk hp hs1 hsl hbn
       go_wp2_with (first | (with_reducible refine wpList_load_mid rfl 39 (.tmp 81) rfl bp (off + s * 15) rfl _ _ hRP.out Try.underlying39 rfl (by kernel_rfl) ?_) | (at_builtin; go_loud (refine step_app1 (L := ptL) rfl (.tmp 78) (.tmp 83) 28 39 _ 208 rfl Try.underlying28 patchInfo rfl (by decide) w2.heap.size (wk.heap.size + 1) _ (Dg.pickP l ((gs'.take i).flatten ++ gr.take k)) [p] rfl ho1 (some ⟨wk.heap.size, 0, none⟩) 1 1 rfl rfl rb hln (by decide) hsz ?_)))
       intro v9 w9 q1 q2 _ _
       have HO9 := hide q1
       have HB9 := hide ((HBk.out.alloc HBk.out.size (.cells #[.int .i64 p.1, .string p.2, .string p.3, .string p.4, .string p.5, .int .i64 p.6.1, .string p.6.2, .string p.6.3, .string p.6.4, .string p.6.5, .string p.6.6, .bool p.6.7, .int .i64 p.7, .string p.8, .string p.9] 39)).trans q2)
       clear q1 q2 ho1 rb hsz hln hRP cs cg
       go_wp2_with (fail)
       go_roundw
       case rel => exact ⟨k + 1, by omega, by go_num, hide (by rw [HPS.out]; exact HO9.out), HB9⟩
       case measure => simp [intOf]; omega
      ·obtain rfl : k = gr.length := by omega
       go_wp2_with (fail)
       go_meet
       case rel => exact ⟨by rw [HTK.out]; rw [List.take_length] at HOk; exact HOk, HBk⟩
    case rest =>
     obtain ⟨HO2, HB2⟩ := hcut
     go_wp2_with (fail)
     go_roundw
     case rel => exact ⟨i + 1, by omega, by go_num, HO2, HB2⟩
     case measure => simp [intOf]; omega
   ·obtain rfl : i = m := by omega
    go_wp2_with (fail)
    go_ret
    refine ⟨⟨_, gs, gs', S, rfl, HINV.out, HP.out, ?_⟩, HBB.out.trans (HBi.out.mono hw2)⟩
    have h1 : gs'.take i = gs' := List.take_of_length_le (by rw [← HAT2.out.1, HLEN.out]; exact Nat.le_refl _)
    have h2 := HOi.out
    rw [h1] at h2
    exact own_weak h2 hw2
end Go.Proofs.Ytgmimhgeigbpkaa
/- The drafter of package bill makes an item what it is to be. No conditions but those that each theorem states. -/
namespace Go.Proofs.Ytgmimhgeigbpkaa
open Go Go.RowKit Go.Sort Go.Maps
namespace Dg
theorem run_cut {A C : List Pt} {s t : List It} (h : runT oneP s (A ++ C) = some t) : ∃ u, runT oneP s A = some u ∧ runT oneP u C = some t := by
 rw [runT_append] at h
 cases e : runT oneP s A with
 | none => rw [e] at h; cases h
 | some u => rw [e] at h; exact ⟨u, rfl, h⟩
def optP (c : Bool) (p : Pt) : List Pt := if c then [p] else []
/-- A patch is made or not. -/
def StepP (c : Bool) (p : Pt) (s u : List It) : Prop := (c = true ∧ applyP s p = (u, 0)) ∨ (c = false ∧ u = s)
theorem opt_cut {c : Bool} {p : Pt} {s u : List It} (h : runT oneP s (optP c p) = some u) : StepP c p s u := by
 cases c with
 | true =>
  have h' : runT oneP s [p] = some u := h
  rw [runT] at h'
  cases e : oneP s p with
  | none => rw [e] at h'; cases h'
  | some s1 =>
   rw [e] at h'
   have h2 : some s1 = some u := h'
   injection h2 with h2
   subst h2
   exact .inl ⟨rfl, oneP_iff.1 e⟩
 | false =>
  have h' : some s = some u := h
  injection h' with h'
  exact .inr ⟨rfl, h'.symm⟩
theorem change_cut {y x : It} {mv : Bool} {a : ByteArray} {s t : List It} (h : runT oneP s (changeL y x mv a) = some t) : ∃ s1 s2 s3 s4 s5, StepP (revB y x mv) (barePt 6 x.id) s s1 ∧ StepP mv (goP x.id x.parent a) s1 s2 ∧ StepP (numB y x) (numP x.id x.number) s2 s3 ∧ StepP (textsB y x) (textP x.id x.north x.south) s3 s4 ∧ StepP (stillB y x mv && !x.gone) (barePt 6 x.id) s4 s5 ∧ StepP (!stillB y x mv && x.gone) (barePt 5 x.id) s5 t := by
 obtain ⟨s1, h1, h⟩ := run_cut h
 obtain ⟨s2, h2, h⟩ := run_cut h
 obtain ⟨s3, h3, h⟩ := run_cut h
 obtain ⟨s4, h4, h⟩ := run_cut h
 obtain ⟨s5, h5, h⟩ := run_cut h
 exact ⟨s1, s2, s3, s4, s5, opt_cut h1, opt_cut h2, opt_cut h3, opt_cut h4, opt_cut h5, opt_cut h⟩
theorem change_opt (y x : It) (mv : Bool) (a : ByteArray) (ps : List Pt) : ps ++ changeL y x mv a = (((((ps ++ optP (revB y x mv) (barePt 6 x.id)) ++ optP mv (goP x.id x.parent a)) ++ optP (numB y x) (numP x.id x.number)) ++ optP (textsB y x) (textP x.id x.north x.south)) ++ optP (stillB y x mv && !x.gone) (barePt 6 x.id)) ++ optP (!stillB y x mv && x.gone) (barePt 5 x.id) := by
 rw [List.append_assoc, List.append_assoc, List.append_assoc, List.append_assoc, List.append_assoc]
 rfl
theorem optP_len (c : Bool) (p : Pt) : (optP c p).length ≤ 1 := opt_len c p
theorem apply_valid {l l' : List It} {p : Pt} (h : applyP l p = (l', 0)) : validC l = true := by
 cases hv : validC l with
 | true => rfl
 | false =>
  unfold applyP at h
  rw [if_pos (.inl hv)] at h
  injection h with _ h
  cases h
theorem move_ne {s : List It} {k : Nat} {x : It} {a : ByteArray} {mv : Bool} (h : moveB s k x a = mv) {y : It} (hy : s.getD k zeroI = y) (hp : y.parent ≠ x.parent) : mv = true := by
 rw [← h]
 unfold moveB
 rw [hy]
 exact decide_eq_true (.inl hp)
theorem move_eq {s : List It} {k : Nat} {x : It} {a : ByteArray} {mv : Bool} (h : moveB s k x a = mv) {y : It} (hy : s.getD k zeroI = y) (hp : y.parent = x.parent) {R : ByteArray} (hR : nbP s k x.parent = R) : mv = !(R.toList == a.toList) := by
 rw [← h, ← dec_beq]
 unfold moveB
 rw [hy, hR, hp, ← decide_not]
 simp
theorem texts_eq (y x : It) : textsB y x = (!(y.north.toList == x.north.toList) || !(y.south.toList == x.south.toList)) := by
 unfold textsB
 rw [← dec_beq, ← dec_beq, Bool.eq_iff_iff]
 simp
theorem num_eq (y x : It) : numB y x = !(y.number.toList == x.number.toList) := by
 unfold numB
 rw [← dec_beq, ← decide_not]
end Dg
theorem do_then (D : Nat) (O : Option Nat) (l : List Dg.It) (ps : List Dg.Pt) (p : Dg.Pt) (hp : PtW p) (h2 : p.kind ≠ 2) (hps : ps.length ≤ 1048576) (l' : List Dg.It) (ha : Dg.applyP l p = (l', 0)) (X Y : World) (h : DrQ D O l ps X Y) :
  Calls Try.prog 21 #[.pointer (some ⟨D, 0, none⟩), .agg #[.int .i64 p.1, .string p.2, .string p.3, .string p.4, .string p.5, .int .i64 p.6.1, .string p.6.2, .string p.6.3, .string p.6.4, .string p.6.5, .string p.6.6, .bool p.6.7, .int .i64 p.7, .string p.8, .string p.9]] Y fun e w' => e = .returned (.tuple #[]) ∧ DrQ D O l' (ps ++ [p]) X w' := by
 obtain ⟨A, n, c, v, hS, hF, hN⟩ := h
 have hv := Dg.apply_valid ha
 refine (do_of D l ps A n c v p hp h2 (by rw [← hS.len]; have := valid_len hv; omega) hps (valid_itw hv) l' ha Y hS).mono ?_
 rintro e w' ⟨rfl, A', n', c', v', hS', hF', hN'⟩
 exact ⟨rfl, A', n', c', v', hS', hF.trans hF' hN, hN.trans hN' hF.below.size⟩
theorem DrQ.start {D : Nat} {O : Option Nat} {l : List Dg.It} {ps : List Dg.Pt} {w X Y : World} (h : DrQ D O l ps X Y) (hb : Below w.heap.size w X) (hD : D ≤ w.heap.size) : DrQ D O l ps w Y := by
 obtain ⟨A, n, c, v, hS, hF, hN⟩ := h
 exact ⟨A, n, c, v, hS, (DrF.of_below hb hD).trans hF (.inl rfl), hN.elim .inl (fun ⟨b, e, hb'⟩ => .inr ⟨b, e, by have := hb.size; omega⟩)⟩
theorem zeroI_w : ItW Dg.zeroI := ⟨by decide, by decide, by decide, by decide, by decide, by decide, by decide⟩
theorem kz (k : Int) (hk : 0 ≤ k ∧ k ≤ 7) : -9223372036854775808 ≤ k ∧ k ≤ 9223372036854775807 := by omega
theorem nz63 : Dg.nil8.size ≤ 9223372036854775807 := by decide
theorem bare_w (k : Int) (hk : 0 ≤ k ∧ k ≤ 7) {x : Dg.It} (hx : ItW x) : PtW (Dg.barePt k x.id) := ⟨(kz k hk).1, (kz k hk).2, (kz 0 (by decide)).1, (kz 0 (by decide)).2, zeroI_w, hx.iz, nz63, nz63, nz63⟩
theorem go_w {x : Dg.It} (hx : ItW x) {a : ByteArray} (ha : a.size ≤ 9223372036854775807) : PtW (Dg.goP x.id x.parent a) := ⟨(kz 4 (by decide)).1, (kz 4 (by decide)).2, (kz 0 (by decide)).1, (kz 0 (by decide)).2, zeroI_w, hx.iz, hx.pz, ha, nz63⟩
theorem num_w {x : Dg.It} (hx : ItW x) : PtW (Dg.numP x.id x.number) := ⟨(kz 3 (by decide)).1, (kz 3 (by decide)).2, (kz 0 (by decide)).1, (kz 0 (by decide)).2, zeroI_w, hx.iz, nz63, nz63, hx.nz⟩
theorem text_w {x : Dg.It} (hx : ItW x) : PtW (Dg.textP x.id x.north x.south) := ⟨(kz 7 (by decide)).1, (kz 7 (by decide)).2, (kz 0 (by decide)).1, (kz 0 (by decide)).2, ⟨(kz 0 (by decide)).1, (kz 0 (by decide)).2, nz63, nz63, nz63, hx.oz, hx.sz⟩, hx.iz, nz63, nz63, nz63⟩
end Go.Proofs.Ytgmimhgeigbpkaa
/- The drafter of package bill makes an item what it is to be: the walk. No conditions but those that each theorem states. -/
namespace Go.Proofs.Ytgmimhgeigbpkaa
open Go Go.RowKit Go.Sort Go.Maps
theorem DrQ.keepX {D : Nat} {O : Option Nat} {l : List Dg.It} {ps : List Dg.Pt} {X Y : World} (h : DrQ D O l ps X Y) {j : Nat} (hj : j < X.heap.size) (hD : j ≠ D) (hO : O ≠ some j) : Y.heap[j]? = X.heap[j]? := by
 obtain ⟨_, _, _, _, _, hF, _⟩ := h
 exact hF.keep j hj hD (fun e => hO e.symm)
theorem len_opt {ps : List Dg.Pt} {m : Nat} (h : ps.length ≤ m) (c : Bool) (p : Dg.Pt) : (ps ++ Dg.optP c p).length ≤ m + 1 := by
 have := Dg.optP_len c p
 rw [List.length_append]
 omega
set_option maxRecDepth 100000 in
set_option maxHeartbeats 16000000 in
attribute [-go_sem] Instr.storeAt in
theorem change_of (D : Nat) (l : List Dg.It) (ps : List Dg.Pt) (A : Option Addr) (n c : Nat) (v : Value) (hn : n ≤ 1048576) (hps : ps.length ≤ 100000) (k : Nat) (hk : k < n) (x y : Dg.It) (hx : ItW x) (a : ByteArray) (ha : a.size ≤ 9223372036854775807) (hy : l.getD k Dg.zeroI = y) (mv : Bool) (hmv : Dg.moveB l k x a = mv) (l' : List Dg.It) (hr : Dg.runT Dg.oneP l (Dg.changeL y x mv a) = some l') (w : World) (hS : DrS w D l ps A n c v) :
  Calls Try.prog 20 #[.pointer (some ⟨D, 0, none⟩), .int .i64 k, .agg #[.int .i64 x.1, .string x.2, .string x.3, .string x.4, .string x.5, .string x.6, .bool x.7], .string a] w fun e w' => e = .returned (.tuple #[]) ∧ DrQ D v.ownBlock l' (ps ++ Dg.changeL y x mv a) w w' := by
 have hmx : Try.prog.follows .mixedOrders = true := by kernel_rfl
 have hDl := lt_of_block hS.row
 have hvw : ∀ j, v.ownBlock = some j → D + 1 ≤ j ∧ j < w.heap.size := World.ownsRow.lt hS.own
 have hil : k < l.length := by rw [hS.len]; exact hk
 have hyi : l[k] = y := by rw [← hy]; simp [List.getD_eq_getElem?_getD, hil]
 obtain ⟨b, off, hA⟩ := hS.its.some hil
 subst hA
 have hb1 := Below.news (Below.refl w.heap.size w) (.cells #[.int .i64 x.1, .string x.2, .string x.3, .string x.4, .string x.5, .string x.6, .bool x.7] 37)
 have rX := heap_alloc_new w (.cells #[.int .i64 x.1, .string x.2, .string x.3, .string x.4, .string x.5, .string x.6, .bool x.7] 37)
 have hS1 := hS.below hb1
 have hkc : k < c := Nat.lt_of_lt_of_le hk hS.cap
 have HS0 := hide hS; have HX := hide hx; have HA := hide ha; have HY := hide hy; have HMV := hide hmv; have HR := hide hr; have HPS := hide hps; have HVW := hide hvw
 clear hS hx ha hy hmv hr hps hvw
 go_enter Try.func20, Try.ntmps20
 go_upto_region 1 with (fail)
 generalize w.alloc (.cells #[.int .i64 x.1, .string x.2, .string x.3, .string x.4, .string x.5, .string x.6, .bool x.7] 37) = w1 at *
 have hxw := lt_of_block rX
 obtain ⟨bx, hbx⟩ : ∃ bx, bx = w.heap.size := ⟨_, rfl⟩
 rw [← hbx] at rX hxw ⊢
 have HBX := hide hbx
 clear hbx
 have hRI := hide (show w1.rangeAt b (off + k * 7) [.int .i64 y.1, .string y.2, .string y.3, .string y.4, .string y.5, .string y.6, .bool y.7] from its_range hS1.its hil y hyi)
 have c0 : w1.cell? ⟨D, 0, none⟩ = some (.slice (some ⟨b, off, none⟩) n c) := cell_of_row _ _ 0 _ _ _ hS1.row
 have hst := store_new (ty := 37) (T := 37) w1 #[.int .i64 0, .string ⟨#[]⟩, .string ⟨#[]⟩, .string ⟨#[]⟩, .string ⟨#[]⟩, .string ⟨#[]⟩, .bool false] #[.int .i64 y.1, .string y.2, .string y.3, .string y.4, .string y.5, .string y.6, .bool y.7] (by kernel_rfl) rfl (all_oneCell_toArray (iLay.one y))
 have h0 : (0 : Int) ≤ (k : Int) := by omega
 have h1 : (k : Int) < (n : Int) := by omega
 clear hyi hil
 go_upto_region 2 with (with_reducible refine wpList_load_mid rfl 37 (.tmp 18) rfl b (off + k * 7) rfl _ _ hRI.out Try.underlying37 rfl (by kernel_rfl) ?_)
 clear hst hRI c0
 have hb2 := Below.news (Below.refl w1.heap.size w1) (.cells #[.int .i64 y.1, .string y.2, .string y.3, .string y.4, .string y.5, .string y.6, .bool y.7] 37)
 have rY := heap_alloc_new w1 (.cells #[.int .i64 y.1, .string y.2, .string y.3, .string y.4, .string y.5, .string y.6, .bool y.7] 37)
 have rX2 := iNext rX hb2
 have hS2 := hS1.below hb2
 have hb02 := bnext hb1 hb2
 have hyw := lt_of_block rY
 have hy1 : w.heap.size < w1.heap.size := by have := HBX.out; omega
 clear hb2 rX hS1 hb1
 obtain ⟨b8, hb8⟩ : ∃ b8, b8 = w1.heap.size := ⟨_, rfl⟩
 rw [← hb8] at rY hyw hy1 hxw ⊢
 generalize w1.alloc (.cells #[.int .i64 y.1, .string y.2, .string y.3, .string y.4, .string y.5, .string y.6, .bool y.7] 37) = w2 at *
 clear hb8
 have hbx := HBX.out
 have hjx : bx < w2.heap.size ∧ bx ≠ D ∧ v.ownBlock ≠ some bx := ⟨by omega, by omega, fun e => by have := HVW.out _ e; omega⟩
 have hjy : b8 < w2.heap.size ∧ b8 ≠ D ∧ v.ownBlock ≠ some b8 := ⟨by omega, by omega, fun e => by have := HVW.out _ e; omega⟩
 have HJX := hide hjx; have HJY := hide hjy
 clear hbx hjx hjy
 have hcap := hS2.cap
 have HSK := hide (fun X (hX : Below w2.heap.size w2 X) => hS2.below hX)
 have HXK := hide (fun X (hX : Below w2.heap.size w2 X) => iNext rX2 hX)
 have HYK := hide (fun X (hX : Below w2.heap.size w2 X) => iNext rY hX)
 have HQ := hide (fun X (hX : Below w2.heap.size w2 X) => (show DrQ D v.ownBlock l ps w2 X from ⟨_, _, _, _, hS2.below hX, DrF.of_below hX (by omega), .inl rfl⟩))
 have HQX := hide (fun s q X (hX : DrQ D v.ownBlock s q w2 X) => (hX.keepX HJX.out.1 HJX.out.2.1 HJX.out.2.2).trans rX2)
 have HQY := hide (fun s q X (hX : DrQ D v.ownBlock s q w2 X) => (hX.keepX HJY.out.1 HJY.out.2.1 HJY.out.2.2).trans rY)
 clear rX2 rY hS2
 go_cut [9] from 20 to 37 (fun v9 wx => v9 = .bool mv ∧ Below w2.heap.size w2 wx)
 case first =>
  refine wp_region_noPanic ?_
  refine wp_region_L (Below w2.heap.size w2) 18 hmx ?_
  have hH0 : (Below w2.heap.size w2) w2.drew := (Below.refl w2.heap.size w2).drew
  generalize w2.drew = u0 at *
  by_cases hp : y.parent = x.parent
  ·obtain ⟨R, hRn⟩ : ∃ R, Dg.nbP l k x.parent = R := ⟨_, rfl⟩
   have HM := hide (Dg.move_eq HMV.out HY.out hp hRn)
   have HRN := hide hRn
   have hpe : (y.parent.toList == x.parent.toList) = true := by rw [hp]; exact beq_self_eq_true _
   clear hp hRn
   refine tkY 0 20 ?_ rfl ?_ hH0 ?_
   rotate_left
   ·intro wS hS; go_simp; (try with_reducible rfl)
   simp only [Act.put, pu1, pu2, pu3, pu4, pu5, pu6]
   refine tkY 1 20 ?_ rfl ?_ hH0 ?_
   rotate_left
   ·intro wS hS; have cy : wS.cell? ⟨b8, 2, none⟩ = some (.string y.parent) := cell_of_row _ _ 2 _ _ _ (HYK.out _ hS); go_simp; (try with_reducible rfl)
   simp only [Act.put, pu1, pu2, pu3, pu4, pu5, pu6]
   refine tkY 2 20 ?_ rfl ?_ hH0 ?_
   rotate_left
   ·intro wS hS; go_simp; (try with_reducible rfl)
   simp only [Act.put, pu1, pu2, pu3, pu4, pu5, pu6]
   refine tkY 3 20 ?_ rfl ?_ hH0 ?_
   rotate_left
   ·intro wS hS; have cx : wS.cell? ⟨bx, 2, none⟩ = some (.string x.parent) := cell_of_row _ _ 2 _ _ _ (HXK.out _ hS); go_simp; (try with_reducible rfl)
   simp only [Act.put, pu1, pu2, pu3, pu4, pu5, pu6]
   refine tkY 4 20 ?_ rfl ?_ hH0 ?_
   rotate_left
   ·intro wS hS; go_simp; (try with_reducible rfl)
   simp only [Act.put, pu1, pu2, pu3, pu4, pu5, pu6]
   refine tkY 5 20 ?_ rfl ?_ hH0 ?_
   rotate_left
   ·intro wS hS; go_simp; (try with_reducible rfl)
   simp only [Act.put, pu1, pu2, pu3, pu4, pu5, pu6]
   refine tkY 6 20 ?_ rfl ?_ hH0 ?_
   rotate_left
   ·intro wS hS; go_simp; (try with_reducible rfl)
   simp only [Act.put, pu1, pu2, pu3, pu4, pu5, pu6]
   refine tkY 7 20 ?_ rfl ?_ hH0 ?_
   rotate_left
   ·intro wS hS; go_simp; (try with_reducible rfl)
   simp only [Act.put, pu1, pu2, pu3, pu4, pu5, pu6]
   refine tkY 8 20 ?_ rfl ?_ hH0 ?_
   rotate_left
   ·intro wS hS; go_simp; (try with_reducible rfl)
   simp only [Act.put, pu1, pu2, pu3, pu4, pu5, pu6]
   refine tkY 9 20 ?_ rfl ?_ hH0 ?_
   rotate_left
   ·intro wS hS; have c0 : wS.cell? ⟨D, 0, none⟩ = some (.slice (some ⟨b, off, none⟩) n c) := cell_of_row _ _ 0 _ _ _ (HSK.out _ hS).row; go_simp; (try with_reducible rfl)
   simp only [Act.put, pu1, pu2, pu3, pu4, pu5, pu6]
   refine tkY 10 20 ?_ rfl ?_ hH0 ?_
   rotate_left
   ·intro wS hS; go_simp; (try with_reducible rfl)
   simp only [Act.put, pu1, pu2, pu3, pu4, pu5, pu6]
   refine tkY 11 20 ?_ rfl ?_ hH0 ?_
   rotate_left
   ·intro wS hS; go_simp; (try with_reducible rfl)
   simp only [Act.put, pu1, pu2, pu3, pu4, pu5, pu6]
   refine tkY 12 20 ?_ rfl ?_ hH0 ?_
   rotate_left
   ·intro wS hS; have cx : wS.cell? ⟨bx, 2, none⟩ = some (.string x.parent) := cell_of_row _ _ 2 _ _ _ (HXK.out _ hS); go_simp; (try with_reducible rfl)
   simp only [Act.put, pu1, pu2, pu3, pu4, pu5, pu6]
   refine tkY 14 20 ?_ rfl ?_ hH0 ?_
   rotate_left
   ·intro wS hS; go_simp; (try with_reducible rfl)
   simp only [Act.put, pu1, pu2, pu3, pu4, pu5, pu6]
   refine onY 13 (by rfl) fun K hK => ?_
   go_simp
   refine (neighbour_of l _ n c (HSK.out _ hH0).len hn k (Nat.le_of_lt hk) hcap x.parent u0 (HSK.out _ hH0).its R HRN.out).mono ?_
   rintro e u1 ⟨rfl, hx1⟩
   have hH1 := hH0.trans (hx1.mono hH0.size)
   refine hK.out _ _ (Or.inr hH1) ?_
   clear hK K hx1 hH0
   try simp only [Act.put, pu1, pu2, pu3, pu4, pu5, pu6]
   refine tkY 15 20 ?_ rfl ?_ hH1 ?_
   rotate_left
   ·intro wS hS; go_simp; (try with_reducible rfl)
   simp only [Act.put, pu1, pu2, pu3, pu4, pu5, pu6]
   refine tkY 16 20 ?_ rfl ?_ hH1 ?_
   rotate_left
   ·intro wS hS; go_simp; (try with_reducible rfl)
   simp only [Act.put, pu1, pu2, pu3, pu4, pu5, pu6]
   refine tkY 17 20 ?_ rfl ?_ hH1 ?_
   rotate_left
   ·intro wS hS; go_simp; (try with_reducible rfl)
   simp only [Act.put, pu1, pu2, pu3, pu4, pu5, pu6]
   refine dnY ?_
   go_wp2_with fail
   go_meet
   case rel => exact ⟨by rw [HM.out], hH1⟩
  ·have HM := hide (Dg.move_ne HMV.out HY.out hp)
   have hpe : (y.parent.toList == x.parent.toList) = false := by
    rw [← dec_beq]
    exact decide_eq_false hp
   clear hp
   refine tkY 0 20 ?_ rfl ?_ hH0 ?_
   rotate_left
   ·intro wS hS; go_simp; (try with_reducible rfl)
   simp only [Act.put, pu1, pu2, pu3, pu4, pu5, pu6]
   refine tkY 1 20 ?_ rfl ?_ hH0 ?_
   rotate_left
   ·intro wS hS; have cy : wS.cell? ⟨b8, 2, none⟩ = some (.string y.parent) := cell_of_row _ _ 2 _ _ _ (HYK.out _ hS); go_simp; (try with_reducible rfl)
   simp only [Act.put, pu1, pu2, pu3, pu4, pu5, pu6]
   refine tkY 2 20 ?_ rfl ?_ hH0 ?_
   rotate_left
   ·intro wS hS; go_simp; (try with_reducible rfl)
   simp only [Act.put, pu1, pu2, pu3, pu4, pu5, pu6]
   refine tkY 3 20 ?_ rfl ?_ hH0 ?_
   rotate_left
   ·intro wS hS; have cx : wS.cell? ⟨bx, 2, none⟩ = some (.string x.parent) := cell_of_row _ _ 2 _ _ _ (HXK.out _ hS); go_simp; (try with_reducible rfl)
   simp only [Act.put, pu1, pu2, pu3, pu4, pu5, pu6]
   refine tkY 4 20 ?_ rfl ?_ hH0 ?_
   rotate_left
   ·intro wS hS; go_simp; (try with_reducible rfl)
   simp only [Act.put, pu1, pu2, pu3, pu4, pu5, pu6]
   refine tkY 5 20 ?_ rfl ?_ hH0 ?_
   rotate_left
   ·intro wS hS; go_simp; (try with_reducible rfl)
   simp only [Act.put, pu1, pu2, pu3, pu4, pu5, pu6]
   refine tkV 6 20 (undef) rfl (Or.inr ⟨by rfl, rfl⟩) hH0 ?_
   simp only [Act.put, pu1, pu2, pu3, pu4, pu5, pu6]
   refine tkV 7 20 (undef) rfl (Or.inr ⟨by rfl, rfl⟩) hH0 ?_
   simp only [Act.put, pu1, pu2, pu3, pu4, pu5, pu6]
   refine tkV 8 20 (undef) rfl (Or.inr ⟨by rfl, rfl⟩) hH0 ?_
   simp only [Act.put, pu1, pu2, pu3, pu4, pu5, pu6]
   refine tkV 9 20 (undef) rfl (Or.inr ⟨by rfl, rfl⟩) hH0 ?_
   simp only [Act.put, pu1, pu2, pu3, pu4, pu5, pu6]
   refine tkV 10 20 (undef) rfl (Or.inr ⟨by rfl, rfl⟩) hH0 ?_
   simp only [Act.put, pu1, pu2, pu3, pu4, pu5, pu6]
   refine tkV 11 20 (undef) rfl (Or.inr ⟨by rfl, rfl⟩) hH0 ?_
   simp only [Act.put, pu1, pu2, pu3, pu4, pu5, pu6]
   refine tkV 12 20 (undef) rfl (Or.inr ⟨by rfl, rfl⟩) hH0 ?_
   simp only [Act.put, pu1, pu2, pu3, pu4, pu5, pu6]
   refine tkV 13 20 (undef) rfl (Or.inr ⟨by rfl, rfl⟩) hH0 ?_
   simp only [Act.put, pu1, pu2, pu3, pu4, pu5, pu6]
   refine tkV 14 20 (undef) rfl (Or.inr ⟨by rfl, rfl⟩) hH0 ?_
   simp only [Act.put, pu1, pu2, pu3, pu4, pu5, pu6]
   refine tkV 15 20 (undef) rfl (Or.inr ⟨by rfl, rfl⟩) hH0 ?_
   simp only [Act.put, pu1, pu2, pu3, pu4, pu5, pu6]
   refine tkY 16 20 ?_ rfl ?_ hH0 ?_
   rotate_left
   ·intro wS hS; go_simp; (try with_reducible rfl)
   simp only [Act.put, pu1, pu2, pu3, pu4, pu5, pu6]
   refine tkY 17 20 ?_ rfl ?_ hH0 ?_
   rotate_left
   ·intro wS hS; go_simp; (try with_reducible rfl)
   simp only [Act.put, pu1, pu2, pu3, pu4, pu5, pu6]
   refine dnY ?_
   go_wp2_with fail
   go_meet
   case rel => exact ⟨by rw [HM.out], hH0⟩
 case rest =>
  obtain ⟨rfl, hb3⟩ := hcut
  rename World => w3
  have hQ3 := HQ.out _ hb3
  have rX3 := HXK.out _ hb3
  have rY3 := HYK.out _ hb3
  clear hb3 HQ HXK HYK HSK
  obtain ⟨s1, s2, s3, s4, s5, g1, g2, g3, g4, g5, g6⟩ := Dg.change_cut HR.out
  have hE := Dg.change_opt y x mv a ps
  obtain ⟨g, hg⟩ : ∃ g, y.gone = g := ⟨_, rfl⟩
  obtain ⟨xg, hxg⟩ : ∃ g, x.gone = g := ⟨_, rfl⟩
  obtain ⟨tx, htx⟩ : ∃ g, Dg.textsB y x = g := ⟨_, rfl⟩
  obtain ⟨nm, hnm⟩ : ∃ g, Dg.numB y x = g := ⟨_, rfl⟩
  obtain ⟨r1, hr1⟩ : ∃ g, Dg.revB y x mv = g := ⟨_, rfl⟩
  obtain ⟨st, hst⟩ : ∃ g, Dg.stillB y x mv = g := ⟨_, rfl⟩
  have hnq : (y.number.toList == x.number.toList) = !nm := by rw [← hnm, Dg.num_eq, Bool.not_not]
  have HTX := hide (show tx = (!(y.north.toList == x.north.toList) || !(y.south.toList == x.south.toList)) by rw [← htx]; exact Dg.texts_eq y x)
  have HR1 := hide (show r1 = (g && (mv || (tx || nm))) by rw [← hr1, ← hg, ← htx, ← hnm]; rfl)
  have HST := hide (show st = (g && !r1) by rw [← hst, ← hr1, ← hg]; rfl)
  rw [hr1, hnm, htx, hst, hxg] at hE
  rw [hr1] at g1
  rw [hnm] at g3
  rw [htx] at g4
  rw [hst, hxg] at g5 g6
  rw [hg] at rY3
  have HE := hide hE
  have G1 := hide g1; have G2 := hide g2; have G3 := hide g3; have G4 := hide g4; have G5 := hide g5; have G6 := hide g6
  have HL1 := hide (len_opt HPS.out r1 (Dg.barePt 6 x.id))
  have HL2 := hide (len_opt HL1.out mv (Dg.goP x.id x.parent a))
  have HL3 := hide (len_opt HL2.out nm (Dg.numP x.id x.number))
  have HL4 := hide (len_opt HL3.out tx (Dg.textP x.id x.north x.south))
  have HXG := hide hxg
  clear g1 g2 g3 g4 g5 g6 hE hg htx hnm hr1 hst hxg
  have HNQ := hide hnq
  clear hnq
  have HX3 := hide rX3; have HY3 := hide rY3
  clear rX3 rY3
  have cx4 : w3.cell? ⟨bx, 4, none⟩ = some (.string x.north) := cell_of_row _ _ 4 _ _ _ (HX3.out)
  have cx5 : w3.cell? ⟨bx, 5, none⟩ = some (.string x.south) := cell_of_row _ _ 5 _ _ _ (HX3.out)
  have cy4 : w3.cell? ⟨b8, 4, none⟩ = some (.string y.north) := cell_of_row _ _ 4 _ _ _ (HY3.out)
  have cy5 : w3.cell? ⟨b8, 5, none⟩ = some (.string y.south) := cell_of_row _ _ 5 _ _ _ (HY3.out)
  go_upto_region 3 with (fail)
  go_cut [10] from 37 to 49 (fun v10 wx => v10 = .bool tx ∧ wx = w3)
  case first =>
   cases hN : (y.north.toList == x.north.toList) <;> cases hS : (y.south.toList == x.south.toList) <;> (go_wp2_with fail; go_meet; exact ⟨by rw [HTX.out, hN, hS]; rfl, rfl⟩)
  clear cx4 cx5 cy4 cy5
  obtain ⟨rfl, rfl⟩ := hcut
  rename World => w3
  have cy6 : w3.cell? ⟨b8, 6, none⟩ = some (.bool g) := cell_of_row _ _ 6 _ _ _ (HY3.out)
  have cy3 : w3.cell? ⟨b8, 3, none⟩ = some (.string y.number) := cell_of_row _ _ 3 _ _ _ (HY3.out)
  have cx3 : w3.cell? ⟨bx, 3, none⟩ = some (.string x.number) := cell_of_row _ _ 3 _ _ _ (HX3.out)
  go_upto_region 5 with (fail)
  go_cut [64] from 51 to 65 (fun v64 wx => v64 = .bool r1 ∧ wx = w3)
  case first =>
   have hnq := HNQ.out
   cases g <;> cases mv <;> cases tx <;> cases nm <;> (go_wp2_with fail; go_meet; exact ⟨by rw [HR1.out]; rfl, rfl⟩)
  clear cy6 cy3 cx3
  obtain ⟨rfl, rfl⟩ := hcut
  rename World => w3
  go_upto_if 64 with (fail)
  go_cut [11] from 65 to 70 (fun v11 wx => v11 = .bool st ∧ DrQ D v.ownBlock s1 (ps ++ Dg.optP r1 (Dg.barePt 6 x.id)) w2 wx)
  case first =>
   rcases G1.out with ⟨hc, ha⟩ | ⟨hc, he⟩
   ·have HAP := hide ha
    clear ha
    subst hc
    have cx1 : w3.cell? ⟨bx, 1, none⟩ = some (.string x.id) := cell_of_row _ _ 1 _ _ _ (HQX.out _ _ _ hQ3)
    go_wp2_with (fail)
    refine (do_then D v.ownBlock l ps (Dg.barePt 6 x.id) (bare_w 6 (by decide) HX.out) (show (6 : Int) ≠ 2 by decide) (Nat.le_trans HPS.out (by omega)) s1 HAP.out w2 w3 hQ3).mono ?_
    rintro e w4 ⟨rfl, hQ4⟩
    clear cx1
    go_wp2_with (fail)
    go_meet
    exact ⟨by rw [HST.out]; simp, hQ4⟩
   ·have HE2 := hide he
    clear he
    subst hc
    go_wp2_with (fail)
    go_meet
    exact ⟨by rw [HST.out]; simp, (by rw [HE2.out, show (ps ++ Dg.optP false (Dg.barePt 6 x.id)) = ps ++ [] from rfl, List.append_nil]; exact hQ3)⟩
  clear hQ3
  obtain ⟨rfl, hQ4⟩ := hcut
  rename World => w4
  go_upto_if 70 with (fail)
  go_cut [] from 71 to 79 (fun wx => DrQ D v.ownBlock s2 ((ps ++ Dg.optP r1 (Dg.barePt 6 x.id)) ++ Dg.optP mv (Dg.goP x.id x.parent a)) w2 wx)
  case first =>
   rcases G2.out with ⟨hc, ha⟩ | ⟨hc, he⟩
   ·have HAP := hide ha
    clear ha
    subst hc
    have cx1 : w4.cell? ⟨bx, 1, none⟩ = some (.string x.id) := cell_of_row _ _ 1 _ _ _ (HQX.out _ _ _ hQ4)
    have cx2 : w4.cell? ⟨bx, 2, none⟩ = some (.string x.parent) := cell_of_row _ _ 2 _ _ _ (HQX.out _ _ _ hQ4)
    go_wp2_with (fail)
    refine (do_then D v.ownBlock s1 (ps ++ Dg.optP r1 (Dg.barePt 6 x.id)) (Dg.goP x.id x.parent a) (go_w HX.out HA.out) (show (4 : Int) ≠ 2 by decide) (Nat.le_trans HL1.out (by omega)) s2 HAP.out w2 w4 hQ4).mono ?_
    rintro e w5 ⟨rfl, hQ5⟩
    clear cx1 cx2
    go_wp2_with (fail)
    go_meet
    exact hQ5
   ·have HE2 := hide he
    clear he
    subst hc
    go_wp2_with (fail)
    go_meet
    exact (by rw [HE2.out, show ((ps ++ Dg.optP r1 (Dg.barePt 6 x.id)) ++ Dg.optP false (Dg.goP x.id x.parent a)) = (ps ++ Dg.optP r1 (Dg.barePt 6 x.id)) ++ [] from rfl, List.append_nil]; exact hQ4)
  clear hQ4
  have hQ5 := hcut
  clear hcut
  rename World => w5
  have cx3 : w5.cell? ⟨bx, 3, none⟩ = some (.string x.number) := cell_of_row _ _ 3 _ _ _ (HQX.out _ _ _ hQ5)
  have cy3 : w5.cell? ⟨b8, 3, none⟩ = some (.string y.number) := cell_of_row _ _ 3 _ _ _ (HQY.out _ _ _ hQ5)
  have hnq := HNQ.out
  go_upto_if 83 with (fail)
  clear cx3 cy3 hnq
  go_cut [] from 84 to 91 (fun wx => DrQ D v.ownBlock s3 (((ps ++ Dg.optP r1 (Dg.barePt 6 x.id)) ++ Dg.optP mv (Dg.goP x.id x.parent a)) ++ Dg.optP nm (Dg.numP x.id x.number)) w2 wx)
  case first =>
   rcases G3.out with ⟨hc, ha⟩ | ⟨hc, he⟩
   ·have HAP := hide ha
    clear ha
    subst hc
    have cx1 : w5.cell? ⟨bx, 1, none⟩ = some (.string x.id) := cell_of_row _ _ 1 _ _ _ (HQX.out _ _ _ hQ5)
    have cx3 : w5.cell? ⟨bx, 3, none⟩ = some (.string x.number) := cell_of_row _ _ 3 _ _ _ (HQX.out _ _ _ hQ5)
    go_wp2_with (fail)
    refine (do_then D v.ownBlock s2 ((ps ++ Dg.optP r1 (Dg.barePt 6 x.id)) ++ Dg.optP mv (Dg.goP x.id x.parent a)) (Dg.numP x.id x.number) (num_w HX.out) (show (3 : Int) ≠ 2 by decide) (Nat.le_trans HL2.out (by omega)) s3 HAP.out w2 w5 hQ5).mono ?_
    rintro e w6 ⟨rfl, hQ6⟩
    clear cx1 cx3
    go_wp2_with (fail)
    go_meet
    exact hQ6
   ·have HE2 := hide he
    clear he
    subst hc
    go_wp2_with (fail)
    go_meet
    exact (by rw [HE2.out, show (((ps ++ Dg.optP r1 (Dg.barePt 6 x.id)) ++ Dg.optP mv (Dg.goP x.id x.parent a)) ++ Dg.optP false (Dg.numP x.id x.number)) = ((ps ++ Dg.optP r1 (Dg.barePt 6 x.id)) ++ Dg.optP mv (Dg.goP x.id x.parent a)) ++ [] from rfl, List.append_nil]; exact hQ5)
  clear hQ5
  have hQ6 := hcut
  clear hcut
  rename World => w6
  go_upto_if 91 with (fail)
  go_cut [] from 92 to 102 (fun wx => DrQ D v.ownBlock s4 ((((ps ++ Dg.optP r1 (Dg.barePt 6 x.id)) ++ Dg.optP mv (Dg.goP x.id x.parent a)) ++ Dg.optP nm (Dg.numP x.id x.number)) ++ Dg.optP tx (Dg.textP x.id x.north x.south)) w2 wx)
  case first =>
   rcases G4.out with ⟨hc, ha⟩ | ⟨hc, he⟩
   ·have HAP := hide ha
    clear ha
    subst hc
    have cx1 : w6.cell? ⟨bx, 1, none⟩ = some (.string x.id) := cell_of_row _ _ 1 _ _ _ (HQX.out _ _ _ hQ6)
    have cx4 : w6.cell? ⟨bx, 4, none⟩ = some (.string x.north) := cell_of_row _ _ 4 _ _ _ (HQX.out _ _ _ hQ6)
    have cx5 : w6.cell? ⟨bx, 5, none⟩ = some (.string x.south) := cell_of_row _ _ 5 _ _ _ (HQX.out _ _ _ hQ6)
    go_wp2_with (fail)
    refine (do_then D v.ownBlock s3 (((ps ++ Dg.optP r1 (Dg.barePt 6 x.id)) ++ Dg.optP mv (Dg.goP x.id x.parent a)) ++ Dg.optP nm (Dg.numP x.id x.number)) (Dg.textP x.id x.north x.south) (text_w HX.out) (show (7 : Int) ≠ 2 by decide) (Nat.le_trans HL3.out (by omega)) s4 HAP.out w2 w6 hQ6).mono ?_
    rintro e w7 ⟨rfl, hQ7⟩
    clear cx1 cx4 cx5
    go_wp2_with (fail)
    go_meet
    exact hQ7
   ·have HE2 := hide he
    clear he
    subst hc
    go_wp2_with (fail)
    go_meet
    exact (by rw [HE2.out, show ((((ps ++ Dg.optP r1 (Dg.barePt 6 x.id)) ++ Dg.optP mv (Dg.goP x.id x.parent a)) ++ Dg.optP nm (Dg.numP x.id x.number)) ++ Dg.optP false (Dg.textP x.id x.north x.south)) = (((ps ++ Dg.optP r1 (Dg.barePt 6 x.id)) ++ Dg.optP mv (Dg.goP x.id x.parent a)) ++ Dg.optP nm (Dg.numP x.id x.number)) ++ [] from rfl, List.append_nil]; exact hQ6)
  clear hQ6
  have hQ7 := hcut
  clear hcut
  rename World => w7
  have cx6 : w7.cell? ⟨bx, 6, none⟩ = some (.bool xg) := by rw [← HXG.out]; exact cell_of_row _ _ 6 _ _ _ (HQX.out _ _ _ hQ7)
  have cx1 : w7.cell? ⟨bx, 1, none⟩ = some (.string x.id) := cell_of_row _ _ 1 _ _ _ (HQX.out _ _ _ hQ7)
  have HD := hide (show D ≤ w.heap.size by omega)
  cases st <;> cases xg
  ·obtain ⟨h, _⟩ | ⟨_, e5⟩ := G5.out
   ·cases h
   obtain ⟨h, _⟩ | ⟨_, e6⟩ := G6.out
   ·cases h
   have HE5 := hide e5; have HE6 := hide e6
   clear e5 e6
   go_wp2_with (fail)
   go_end0
   exact ⟨rfl, by rw [HE.out]; exact DrQ.start (show DrQ D v.ownBlock l' ((((((ps ++ Dg.optP r1 (Dg.barePt 6 x.id)) ++ Dg.optP mv (Dg.goP x.id x.parent a)) ++ Dg.optP nm (Dg.numP x.id x.number)) ++ Dg.optP tx (Dg.textP x.id x.north x.south)) ++ []) ++ []) w2 _ from by rw [HE6.out, HE5.out, List.append_nil, List.append_nil]; exact hQ7) hb02 HD.out⟩
  ·obtain ⟨h, _⟩ | ⟨_, e5⟩ := G5.out
   ·cases h
   obtain ⟨_, ha⟩ | ⟨h, _⟩ := G6.out
   rotate_left
   ·cases h
   rw [e5] at ha
   have HAP := hide ha
   clear e5 ha
   go_wp2_with (fail)
   refine (do_then D v.ownBlock s4 ((((ps ++ Dg.optP r1 (Dg.barePt 6 x.id)) ++ Dg.optP mv (Dg.goP x.id x.parent a)) ++ Dg.optP nm (Dg.numP x.id x.number)) ++ Dg.optP tx (Dg.textP x.id x.north x.south)) (Dg.barePt 5 x.id) (bare_w 5 (by decide) HX.out) (show (5 : Int) ≠ 2 by decide) (Nat.le_trans HL4.out (by omega)) l' HAP.out w2 w7 hQ7).mono ?_
   rintro e w8 ⟨rfl, hQ8⟩
   clear cx6 cx1
   go_wp2_with (fail)
   go_end0
   exact ⟨rfl, by rw [HE.out]; exact DrQ.start (show DrQ D v.ownBlock l' ((((((ps ++ Dg.optP r1 (Dg.barePt 6 x.id)) ++ Dg.optP mv (Dg.goP x.id x.parent a)) ++ Dg.optP nm (Dg.numP x.id x.number)) ++ Dg.optP tx (Dg.textP x.id x.north x.south)) ++ []) ++ [Dg.barePt 5 x.id]) w2 _ from by rw [show ((((ps ++ Dg.optP r1 (Dg.barePt 6 x.id)) ++ Dg.optP mv (Dg.goP x.id x.parent a)) ++ Dg.optP nm (Dg.numP x.id x.number)) ++ Dg.optP tx (Dg.textP x.id x.north x.south)) ++ [] = ((((ps ++ Dg.optP r1 (Dg.barePt 6 x.id)) ++ Dg.optP mv (Dg.goP x.id x.parent a)) ++ Dg.optP nm (Dg.numP x.id x.number)) ++ Dg.optP tx (Dg.textP x.id x.north x.south)) from List.append_nil _]; exact hQ8) hb02 HD.out⟩
  ·obtain ⟨_, ha⟩ | ⟨h, _⟩ := G5.out
   rotate_left
   ·cases h
   obtain ⟨h, _⟩ | ⟨_, e6⟩ := G6.out
   ·cases h
   have HAP := hide ha; have HE6 := hide e6
   clear e6 ha
   go_wp2_with (fail)
   refine (do_then D v.ownBlock s4 ((((ps ++ Dg.optP r1 (Dg.barePt 6 x.id)) ++ Dg.optP mv (Dg.goP x.id x.parent a)) ++ Dg.optP nm (Dg.numP x.id x.number)) ++ Dg.optP tx (Dg.textP x.id x.north x.south)) (Dg.barePt 6 x.id) (bare_w 6 (by decide) HX.out) (show (6 : Int) ≠ 2 by decide) (Nat.le_trans HL4.out (by omega)) s5 HAP.out w2 w7 hQ7).mono ?_
   rintro e w8 ⟨rfl, hQ8⟩
   clear cx6 cx1
   go_wp2_with (fail)
   go_end0
   exact ⟨rfl, by rw [HE.out]; exact DrQ.start (show DrQ D v.ownBlock l' ((((((ps ++ Dg.optP r1 (Dg.barePt 6 x.id)) ++ Dg.optP mv (Dg.goP x.id x.parent a)) ++ Dg.optP nm (Dg.numP x.id x.number)) ++ Dg.optP tx (Dg.textP x.id x.north x.south)) ++ [Dg.barePt 6 x.id]) ++ []) w2 _ from by rw [HE6.out, List.append_nil]; exact hQ8) hb02 HD.out⟩
  ·obtain ⟨h, _⟩ | ⟨_, e5⟩ := G5.out
   ·cases h
   obtain ⟨h, _⟩ | ⟨_, e6⟩ := G6.out
   ·cases h
   have HE5 := hide e5; have HE6 := hide e6
   clear e5 e6
   go_wp2_with (fail)
   go_end0
   exact ⟨rfl, by rw [HE.out]; exact DrQ.start (show DrQ D v.ownBlock l' ((((((ps ++ Dg.optP r1 (Dg.barePt 6 x.id)) ++ Dg.optP mv (Dg.goP x.id x.parent a)) ++ Dg.optP nm (Dg.numP x.id x.number)) ++ Dg.optP tx (Dg.textP x.id x.north x.south)) ++ []) ++ []) w2 _ from by rw [HE6.out, HE5.out, List.append_nil, List.append_nil]; exact hQ7) hb02 HD.out⟩
end Go.Proofs.Ytgmimhgeigbpkaa
/- The map of kinds of Draft, its two closures, ContainsFunc over items. No conditions but those that each theorem states. -/
namespace Go.Proofs.Ytgmimhgeigbpkaa
open Go Go.RowKit Go.Sort Go.Maps
noncomputable def rIn : Value → Option (DataW Unit × List MemPlace) := plainElem Try.prog 3
/-- The kinds of items by their Ids, as the map reads: the last one first. -/
noncomputable def kindsS : List Dg.It → DataW Unit
 | [] => .map []
 | x :: s => (kindsS s).put (.string x.id.data.toList) (.lit (.int .i64 x.kind))
def kindOf : List Dg.It → ByteArray → Int
 | [], _ => 0
 | x :: s, m => if x.id = m then x.kind else kindOf s m
theorem kindsS_isMap : ∀ s, IsMap (kindsS s)
 | [] => isMap_empty
 | _ :: s => (kindsS_isMap s).put _ _
theorem kindsS_at (m : ByteArray) : ∀ s, (kindsS s).atKey (.string m.data.toList) (.lit (.int .i64 0)) = .lit (.int .i64 (kindOf s m))
 | [] => rfl
 | x :: s => by
  by_cases h : x.id = m
  ·subst h
   rw [kindsS, atKey_put_same (kindsS_isMap s) (by trivial), kindOf, if_pos rfl]
  ·rw [kindsS, atKey_put_other (fun e => h (by
    obtain ⟨d, hd⟩ : ∃ d, x.id = d := ⟨_, rfl⟩
    rw [hd] at e ⊢
    obtain ⟨d⟩ := d; obtain ⟨d'⟩ := m
    injection e with e
    exact congrArg ByteArray.mk (Array.toList_inj.1 e.symm))), kindsS_at m s, kindOf, if_neg h]
set_option maxRecDepth 100000 in
theorem kindsS_run {W : World} {mb N : Nat} {s : List Dg.It} (h : W.ownsMap Try.prog 9 rIn mb N (kindsS s)) (m : ByteArray) (hm : m.size ≤ 9223372036854775807) :
  (Instr.lookup 49 (.map (some mb)) (.string m) false).run Try.prog W = .ok (.int .i64 (kindOf s m)) W := by
 obtain ⟨v, ps, hrun, hv⟩ := h.lookup lawStr Try.underlying49 (z := .int .i64 0) (by kernel_rfl) (plainElem_int Try.underlying3 (a := 0) (by decide)) (key_str m hm)
 rw [kindsS_at] at hv
 obtain ⟨x, rfl, hx, _⟩ := plainElem_int_inv Try.underlying3 hv
 injection hx with hx _
 injection hx with hx
 injection hx with _ hx
 rw [hx]
 exact hrun
/-- What the closures see: the box of the map, and the map. -/
structure KiS (X : World) (b6 : Nat) (s : List Dg.It) : Prop where
 ex : ∃ mb N, X.heap[b6]? = some (.cells #[.map (some mb)] 49 (0, 0)) ∧ X.ownsMap Try.prog 9 rIn mb N (kindsS s)
theorem KiS.below {X X' : World} {b6 : Nat} {s : List Dg.It} (h : KiS X b6 s) (hb : Below X.heap.size X X') : KiS X' b6 s := by
 obtain ⟨mb, N, h1, h2⟩ := h.ex
 exact ⟨mb, N, iNext h1 hb, ownsMap_off (S := []) h2 (Off.of_below hb) (by simp)⟩
def p1K (s : List Dg.It) (x : Dg.It) : Bool := kindOf s x.id == 0
set_option maxHeartbeats 4000000 in
theorem draft1_any (s : List Dg.It) (x : Dg.It) (hx : x.id.size ≤ 9223372036854775807) (b6 : Nat) (w : World) (hK : KiS w b6 s) :
  Calls Try.prog 16 #[.agg #[.int .i64 x.1, .string x.2, .string x.3, .string x.4, .string x.5, .string x.6, .bool x.7], .pointer (some ⟨b6, 0, none⟩)] w fun e w' => e = .returned (.bool (p1K s x)) ∧ Below w.heap.size w w' := by
 have hb0 := Below.news (Below.refl w.heap.size w) (.cells #[.int .i64 x.1, .string x.2, .string x.3, .string x.4, .string x.5, .string x.6, .bool x.7] 37)
 have hx0 := heap_alloc_new w (.cells #[.int .i64 x.1, .string x.2, .string x.3, .string x.4, .string x.5, .string x.6, .bool x.7] 37)
 obtain ⟨mb, N, h1, h2⟩ := (hK.below hb0).ex
 have c6 := iCells0 h1
 have hf := fun j => cell_of_row _ _ j _ _ _ hx0
 have f0 : (w.alloc (.cells #[.int .i64 x.1, .string x.2, .string x.3, .string x.4, .string x.5, .string x.6, .bool x.7] 37)).cell? ⟨w.heap.size, 0, none⟩ = some (.int .i64 x.kind) := hf 0
 have f1 : (w.alloc (.cells #[.int .i64 x.1, .string x.2, .string x.3, .string x.4, .string x.5, .string x.6, .bool x.7] 37)).cell? ⟨w.heap.size, 1, none⟩ = some (.string x.id) := hf 1
 have hrun := kindsS_run h2 x.id hx
 clear hf hK h2 h1
 go_enter Try.func16, Try.ntmps16
 go_wp2
 go_ret
 exact ⟨rfl, hb0⟩
def p2K (s : List Dg.It) (x : Dg.It) : Bool := kindOf s x.id != x.kind
set_option maxHeartbeats 4000000 in
theorem draft2_any (s : List Dg.It) (x : Dg.It) (hx : x.id.size ≤ 9223372036854775807) (b6 : Nat) (w : World) (hK : KiS w b6 s) :
  Calls Try.prog 17 #[.agg #[.int .i64 x.1, .string x.2, .string x.3, .string x.4, .string x.5, .string x.6, .bool x.7], .pointer (some ⟨b6, 0, none⟩)] w fun e w' => e = .returned (.bool (p2K s x)) ∧ Below w.heap.size w w' := by
 have hb0 := Below.news (Below.refl w.heap.size w) (.cells #[.int .i64 x.1, .string x.2, .string x.3, .string x.4, .string x.5, .string x.6, .bool x.7] 37)
 have hx0 := heap_alloc_new w (.cells #[.int .i64 x.1, .string x.2, .string x.3, .string x.4, .string x.5, .string x.6, .bool x.7] 37)
 obtain ⟨mb, N, h1, h2⟩ := (hK.below hb0).ex
 have c6 := iCells0 h1
 have hf := fun j => cell_of_row _ _ j _ _ _ hx0
 have f0 : (w.alloc (.cells #[.int .i64 x.1, .string x.2, .string x.3, .string x.4, .string x.5, .string x.6, .bool x.7] 37)).cell? ⟨w.heap.size, 0, none⟩ = some (.int .i64 x.kind) := hf 0
 have f1 : (w.alloc (.cells #[.int .i64 x.1, .string x.2, .string x.3, .string x.4, .string x.5, .string x.6, .bool x.7] 37)).cell? ⟨w.heap.size, 1, none⟩ = some (.string x.id) := hf 1
 have hrun := kindsS_run h2 x.id hx
 clear hf hK h2 h1
 go_enter Try.func17, Try.ntmps17
 go_wp2
 go_ret
 exact ⟨rfl, hb0⟩
set_option maxHeartbeats 4000000 in
theorem index1_any (s l : List Dg.It) (A : Option Addr) (n c : Nat) (hl : l.length = n) (hn : n ≤ 1048576) (hx : ∀ x ∈ l, x.id.size ≤ 9223372036854775807) (b6 : Nat) (w : World) (hI : Its w w.heap.size A l) (hK : KiS w b6 s) :
  Calls Try.prog 38 #[.slice A n c, .func (.func 16) #[] #[.pointer (some ⟨b6, 0, none⟩)]] w fun e w' => (∃ K : Int, e = .returned (.int .i64 K) ∧ decide (0 ≤ K) = l.any (p1K s)) ∧ Below w.heap.size w w' := by
 have HL := hide hl; have HI := hide hI; have HKK := hide hK; have HXX := hide hx
 clear hl hI hK hx
 go_enter Try.func38, Try.ntmps38
 go_wp2
 go_loopw [8] (fun i wr => ∃ k : Nat, k ≤ n ∧ i = .int .i64 k ∧ Below w.heap.size w wr ∧ Hid (∀ x ∈ l.take k, p1K s x = false)) (fun i _ => n - (intOf i).toNat)
 case atStart => exact ⟨0, by omega, rfl, Below.refl _ _, fun x hx => by simp at hx⟩
 case round =>
  obtain ⟨k, hk, rfl, hb, hall⟩ := hrel
  by_cases hlt : k < n
  ·have hkl : k < l.length := by rw [HL.out]; exact hlt
   have hIr := HI.out.below hb
   obtain ⟨b, off, rfl⟩ := hIr.some hkl
   obtain ⟨x, hx⟩ : ∃ x, l[k] = x := ⟨_, rfl⟩
   obtain ⟨hbl, p0, p1, p2, p3, p4, p5, p6⟩ := hIr.cells hkl x hx
   have HX := hide hx
   have HM := hide (HXX.out x (by rw [← hx]; exact List.getElem_mem hkl))
   clear hx hIr
   have hk0 : (0 : Int) ≤ (k : Int) := by omega
   have hkn : (k : Int) < (n : Int) := by omega
   go_wp2_with fail
   clear p0 p1 p2 p3 p4 p5 p6
   obtain ⟨R, hR⟩ : ∃ R, p1K s x = R := ⟨_, rfl⟩
   have hcl := draft1_any s x HM.out b6 _ (HKK.out.below hb)
   rw [hR] at hcl
   refine hcl.mono ?_
   rintro e w2 ⟨rfl, hb2⟩
   have hb3 := bnext hb hb2
   clear hcl
   cases R with
   | true =>
    have HF := hide (show decide (0 ≤ (k : Int)) = l.any (p1K s) by
     rw [decide_eq_true hk0, List.any_eq_true.2 ⟨x, by rw [← HX.out]; exact List.getElem_mem hkl, hR⟩])
    clear hR
    go_wp2
    go_ret
    exact ⟨⟨_, rfl, HF.out⟩, hb3⟩
   | false =>
    have HA : Hid (∀ y ∈ l.take (k + 1), p1K s y = false) := fun y hy => by
     rw [List.take_succ_eq_append_getElem hkl, HX.out] at hy
     rcases List.mem_append.1 hy with h | h
     ·exact hall.out y h
     ·rw [List.mem_singleton.1 h]; exact hR
    clear hR
    go_wp2
    go_roundw
    case rel => exact ⟨k + 1, by omega, by go_num, hb3, HA⟩
    case measure => simp [intOf]; omega
  ·obtain rfl : k = n := by omega
   have HF := hide (show decide (0 ≤ (-1 : Int)) = l.any (p1K s) by
    have h := hall.out
    rw [← HL.out, List.take_length] at h
    rw [decide_eq_false (by decide), eq_comm, List.any_eq_false]
    intro x hx
    rw [h x hx]
    decide)
   go_wp2
   go_ret
   exact ⟨⟨_, rfl, HF.out⟩, hb⟩
set_option maxHeartbeats 4000000 in
theorem contains1_any (s l : List Dg.It) (A : Option Addr) (n c : Nat) (hl : l.length = n) (hn : n ≤ 1048576) (hx : ∀ x ∈ l, x.id.size ≤ 9223372036854775807) (b6 : Nat) (w : World) (hI : Its w w.heap.size A l) (hK : KiS w b6 s) (R : Bool) (hR : l.any (p1K s) = R) :
  Calls Try.prog 15 #[.slice A n c, .func (.func 16) #[] #[.pointer (some ⟨b6, 0, none⟩)]] w fun e w' => e = .returned (.bool R) ∧ Below w.heap.size w w' := by
 go_enter Try.func15, Try.ntmps15
 go_wp2_with fail
 have h := index1_any s l A n c hl hn hx b6 w hI hK
 rw [hR] at h
 refine h.mono ?_
 rintro e w2 ⟨⟨K, rfl, hK2⟩, hb⟩
 clear h hl hx hI hK hR
 go_wp2
 go_ret
 exact ⟨rfl, hb⟩
set_option maxHeartbeats 4000000 in
theorem index2_any (s l : List Dg.It) (A : Option Addr) (n c : Nat) (hl : l.length = n) (hn : n ≤ 1048576) (hx : ∀ x ∈ l, x.id.size ≤ 9223372036854775807) (b6 : Nat) (w : World) (hI : Its w w.heap.size A l) (hK : KiS w b6 s) :
  Calls Try.prog 38 #[.slice A n c, .func (.func 17) #[] #[.pointer (some ⟨b6, 0, none⟩)]] w fun e w' => (∃ K : Int, e = .returned (.int .i64 K) ∧ decide (0 ≤ K) = l.any (p2K s)) ∧ Below w.heap.size w w' := by
 have HL := hide hl; have HI := hide hI; have HKK := hide hK; have HXX := hide hx
 clear hl hI hK hx
 go_enter Try.func38, Try.ntmps38
 go_wp2
 go_loopw [8] (fun i wr => ∃ k : Nat, k ≤ n ∧ i = .int .i64 k ∧ Below w.heap.size w wr ∧ Hid (∀ x ∈ l.take k, p2K s x = false)) (fun i _ => n - (intOf i).toNat)
 case atStart => exact ⟨0, by omega, rfl, Below.refl _ _, fun x hx => by simp at hx⟩
 case round =>
  obtain ⟨k, hk, rfl, hb, hall⟩ := hrel
  by_cases hlt : k < n
  ·have hkl : k < l.length := by rw [HL.out]; exact hlt
   have hIr := HI.out.below hb
   obtain ⟨b, off, rfl⟩ := hIr.some hkl
   obtain ⟨x, hx⟩ : ∃ x, l[k] = x := ⟨_, rfl⟩
   obtain ⟨hbl, p0, p1, p2, p3, p4, p5, p6⟩ := hIr.cells hkl x hx
   have HX := hide hx
   have HM := hide (HXX.out x (by rw [← hx]; exact List.getElem_mem hkl))
   clear hx hIr
   have hk0 : (0 : Int) ≤ (k : Int) := by omega
   have hkn : (k : Int) < (n : Int) := by omega
   go_wp2_with fail
   clear p0 p1 p2 p3 p4 p5 p6
   obtain ⟨R, hR⟩ : ∃ R, p2K s x = R := ⟨_, rfl⟩
   have hcl := draft2_any s x HM.out b6 _ (HKK.out.below hb)
   rw [hR] at hcl
   refine hcl.mono ?_
   rintro e w2 ⟨rfl, hb2⟩
   have hb3 := bnext hb hb2
   clear hcl
   cases R with
   | true =>
    have HF := hide (show decide (0 ≤ (k : Int)) = l.any (p2K s) by
     rw [decide_eq_true hk0, List.any_eq_true.2 ⟨x, by rw [← HX.out]; exact List.getElem_mem hkl, hR⟩])
    clear hR
    go_wp2
    go_ret
    exact ⟨⟨_, rfl, HF.out⟩, hb3⟩
   | false =>
    have HA : Hid (∀ y ∈ l.take (k + 1), p2K s y = false) := fun y hy => by
     rw [List.take_succ_eq_append_getElem hkl, HX.out] at hy
     rcases List.mem_append.1 hy with h | h
     ·exact hall.out y h
     ·rw [List.mem_singleton.1 h]; exact hR
    clear hR
    go_wp2
    go_roundw
    case rel => exact ⟨k + 1, by omega, by go_num, hb3, HA⟩
    case measure => simp [intOf]; omega
  ·obtain rfl : k = n := by omega
   have HF := hide (show decide (0 ≤ (-1 : Int)) = l.any (p2K s) by
    have h := hall.out
    rw [← HL.out, List.take_length] at h
    rw [decide_eq_false (by decide), eq_comm, List.any_eq_false]
    intro x hx
    rw [h x hx]
    decide)
   go_wp2
   go_ret
   exact ⟨⟨_, rfl, HF.out⟩, hb⟩
set_option maxHeartbeats 4000000 in
theorem contains2_any (s l : List Dg.It) (A : Option Addr) (n c : Nat) (hl : l.length = n) (hn : n ≤ 1048576) (hx : ∀ x ∈ l, x.id.size ≤ 9223372036854775807) (b6 : Nat) (w : World) (hI : Its w w.heap.size A l) (hK : KiS w b6 s) (R : Bool) (hR : l.any (p2K s) = R) :
  Calls Try.prog 15 #[.slice A n c, .func (.func 17) #[] #[.pointer (some ⟨b6, 0, none⟩)]] w fun e w' => e = .returned (.bool R) ∧ Below w.heap.size w w' := by
 go_enter Try.func15, Try.ntmps15
 go_wp2_with fail
 have h := index2_any s l A n c hl hn hx b6 w hI hK
 rw [hR] at h
 refine h.mono ?_
 rintro e w2 ⟨⟨K, rfl, hK2⟩, hb⟩
 clear h hl hx hI hK hR
 go_wp2
 go_ret
 exact ⟨rfl, hb⟩
end Go.Proofs.Ytgmimhgeigbpkaa

