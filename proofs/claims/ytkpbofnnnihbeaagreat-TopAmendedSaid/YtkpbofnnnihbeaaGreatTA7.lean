/- Walks and laws of this seat, several texts in one. No conditions but those that each theorem states. -/
import Derived.Test.YtkpbofnnnihbeaaGreatTA6
import Derived.LaidEqlPtr
import Derived.RangeFuncSeq
import Derived.RangeFuncBox
import Derived.RangeFuncKeeps
import Derived.RangeFuncCalls
import Derived.RangeFuncWrites
import Derived.WalkKit
import Derived.OwnWalkIn
import Derived.TacticsInMore
import Derived.RegionIn
import Derived.LoopNIn
import Derived.LoopIn
import Derived.RangeFuncNested
import Derived.Laws.EntriesVeiled
import Derived.Below
import Derived.ChangeSame
import Derived.ProofKit
import Derived.OpenShut
import Derived.LaidMore
import Derived.Lay
import Derived.SevenTiedAt
import Derived.Stop.Joined
import Derived.SliceStrings
import Derived.Lib.SmallJoins
import Derived.Deep.Slices
import Derived.SizedLaws
import Derived.HandedShaped
import Derived.Shelf.Vars
set_option maxRecDepth 100000
set_option maxHeartbeats 16000000
set_option linter.unusedSimpArgs false
set_option linter.unusedVariables false
namespace Go.Proofs.YtkpbofnnnihbeaaGreat
open Go Go.RowKit Go.Sort Go.Maps Rw Tryz
theorem stab_of (g cap B : Nat) (sp : List Value) (X : World) (hBg : B ≤ g) (hBX : B ≤ X.heap.size) (L : Nat) (hLz : L ≤ 1000000) (l : List Dg.Cl) (hL : l.length = L) (h40 : L ≤ 40) (R : List Dg.Cl) (hR : Dg.stabJ ltK l = R) (w : World) (hw : RowJ g sp B l X w) :
  Calls Tryz.prog 51 #[.slice (some ⟨g, 0, none⟩) L cap, .int .i64 L, .func (.func 27) #[] #[]] w fun e w' => e = .returned (.tuple #[]) ∧ RowJ g sp B R X w' := by
 unfold Dg.stabJ at hR
 rw [hL] at hR
 have HW := hide hw
 clear hw
 by_cases c1 : L < 20
 ·rw [if_pos c1] at hR
  have HC : Hid (∀ u, RowJ g sp B l X u → Calls Tryz.prog 80 #[.slice (some ⟨g, 0, none⟩) L cap, .int .i64 0, .int .i64 L, .func (.func 27) #[] #[]] u fun e w' => e = .returned (.tuple #[]) ∧ RowJ g sp B R X w') := hide fun u hu => insB_of g cap B sp X hBg hBX L hLz 0 L (Nat.zero_le _) (Nat.le_refl _) l hL R hR u hu
  clear hR hL
  have k1 : ¬ ((20 : Int) ≤ (L : Int)) := by omega
  have k2 : ¬ ((20 : Int) < (L : Int)) := by omega
  go_enter func51, ntmps51
  go_wp2_with fail
  refine wp_loop_rounds 1 ?_
  rw [rounds_succ]
  go_wp2_with fail
  refine (HC.out _ HW.out).mono ?_
  rintro e w1 ⟨rfl, h1⟩
  clear HC HW
  go_wp2_with fail
  refine wp_loop_rounds 1 ?_
  rw [rounds_succ]
  go_wp2
  go_end0
  exact ⟨rfl, h1⟩
 rw [if_neg c1] at hR
 by_cases c2 : L = 20
 ·subst c2
  rw [if_pos rfl] at hR
  have HC : Hid (∀ u, RowJ g sp B l X u → Calls Tryz.prog 80 #[.slice (some ⟨g, 0, none⟩) 20 cap, .int .i64 0, .int .i64 20, .func (.func 27) #[] #[]] u fun e w' => e = .returned (.tuple #[]) ∧ RowJ g sp B R X w') := hide fun u hu => insB_of g cap B sp X hBg hBX 20 hLz 0 20 (Nat.zero_le _) (Nat.le_refl _) l hL R hR u hu
  have hRl : R.length = 20 := by rw [← hR, Dg.insB_len]; exact hL
  have HC2 : Hid (∀ u, RowJ g sp B R X u → Calls Tryz.prog 80 #[.slice (some ⟨g, 0, none⟩) 20 cap, .int .i64 20, .int .i64 20, .func (.func 27) #[] #[]] u fun e w' => e = .returned (.tuple #[]) ∧ RowJ g sp B R X w') := hide fun u hu => insB_of g cap B sp X hBg hBX 20 hLz 20 20 (Nat.le_refl _) (Nat.le_refl _) R hRl R rfl u hu
  clear hR hL hRl
  go_enter func51, ntmps51
  go_wp2_with fail
  refine wp_loop_rounds 2 ?_
  rw [rounds_succ]
  go_wp2_with fail
  refine (HC.out _ HW.out).mono ?_
  rintro e w1 ⟨rfl, h1⟩
  clear HC HW
  go_wp2_with fail
  rw [rounds_succ]
  go_wp2_with fail
  refine (HC2.out _ h1).mono ?_
  rintro e w2 ⟨rfl, h2⟩
  clear HC2 h1
  go_wp2_with fail
  refine wp_loop_rounds 1 ?_
  rw [rounds_succ]
  go_wp2
  go_end0
  exact ⟨rfl, h2⟩
 rw [if_neg c2] at hR
 obtain ⟨l1, hl1⟩ : ∃ l1, Dg.insB ltK l 0 20 = l1 := ⟨_, rfl⟩
 obtain ⟨l2, hl2⟩ : ∃ l2, Dg.insB ltK l1 20 L = l2 := ⟨_, rfl⟩
 rw [hl1, hl2] at hR
 have hL1 : l1.length = L := by rw [← hl1, Dg.insB_len]; exact hL
 have hL2 : l2.length = L := by rw [← hl2, Dg.insB_len]; exact hL1
 have HC1 : Hid (∀ u, RowJ g sp B l X u → Calls Tryz.prog 80 #[.slice (some ⟨g, 0, none⟩) L cap, .int .i64 0, .int .i64 20, .func (.func 27) #[] #[]] u fun e w' => e = .returned (.tuple #[]) ∧ RowJ g sp B l1 X w') := hide fun u hu => insB_of g cap B sp X hBg hBX L hLz 0 20 (Nat.zero_le _) (by omega) l hL l1 hl1 u hu
 have HC2 : Hid (∀ u, RowJ g sp B l1 X u → Calls Tryz.prog 80 #[.slice (some ⟨g, 0, none⟩) L cap, .int .i64 20, .int .i64 L, .func (.func 27) #[] #[]] u fun e w' => e = .returned (.tuple #[]) ∧ RowJ g sp B l2 X w') := hide fun u hu => insB_of g cap B sp X hBg hBX L hLz 20 L (by omega) (Nat.le_refl _) l1 hL1 l2 hl2 u hu
 have HC3 : Hid (∀ u, RowJ g sp B l2 X u → Calls Tryz.prog 81 #[.slice (some ⟨g, 0, none⟩) L cap, .int .i64 0, .int .i64 20, .int .i64 L, .func (.func 27) #[] #[]] u fun e w' => e = .returned (.tuple #[]) ∧ RowJ g sp B R X w') := hide fun u hu => sym_of g cap B sp X hBg hBX L hLz 41 0 20 L l2 R u (by omega) (by omega) (Nat.le_refl _) (by omega) hL2 hR hu
 by_cases c3 : L < 40
 ·have k1 : (20 : Int) ≤ (L : Int) := by omega
  have k2 : ¬ ((40 : Int) ≤ (L : Int)) := by omega
  have k3 : (20 : Int) < (L : Int) := by omega
  have k4 : ¬ ((40 : Int) < (L : Int)) := by omega
  clear hR hL hL1 hL2 hl1 hl2
  go_enter func51, ntmps51
  go_wp2_with fail
  refine wp_loop_rounds 2 ?_
  rw [rounds_succ]
  go_wp2_with fail
  refine (HC1.out _ HW.out).mono ?_
  rintro e w1 ⟨rfl, h1⟩
  clear HC1 HW
  go_wp2_with fail
  rw [rounds_succ]
  go_wp2_with fail
  refine (HC2.out _ h1).mono ?_
  rintro e w2 ⟨rfl, h2⟩
  clear HC2 h1
  go_wp2_with fail
  refine wp_loop_rounds 2 ?_
  rw [rounds_succ]
  go_wp2_with fail
  refine wp_loop_rounds 1 ?_
  rw [rounds_succ]
  go_wp2_with fail
  refine (HC3.out _ h2).mono ?_
  rintro e w3 ⟨rfl, h3⟩
  clear HC3 h2
  go_wp2_with fail
  rw [rounds_succ]
  go_wp2
  go_end0
  exact ⟨rfl, h3⟩
 ·obtain rfl : L = 40 := by omega
  have HC4 : Hid (∀ u, RowJ g sp B l2 X u → Calls Tryz.prog 80 #[.slice (some ⟨g, 0, none⟩) 40 cap, .int .i64 40, .int .i64 40, .func (.func 27) #[] #[]] u fun e w' => e = .returned (.tuple #[]) ∧ RowJ g sp B l2 X w') := hide fun u hu => insB_of g cap B sp X hBg hBX 40 hLz 40 40 (Nat.le_refl _) (Nat.le_refl _) l2 hL2 l2 rfl u hu
  clear hR hL hL1 hL2 hl1 hl2
  go_enter func51, ntmps51
  go_wp2_with fail
  refine wp_loop_rounds 3 ?_
  rw [rounds_succ]
  go_wp2_with fail
  refine (HC1.out _ HW.out).mono ?_
  rintro e w1 ⟨rfl, h1⟩
  clear HC1 HW
  go_wp2_with fail
  rw [rounds_succ]
  go_wp2_with fail
  refine (HC2.out _ h1).mono ?_
  rintro e w2 ⟨rfl, h2⟩
  clear HC2 h1
  go_wp2_with fail
  rw [rounds_succ]
  go_wp2_with fail
  refine (HC4.out _ h2).mono ?_
  rintro e w4 ⟨rfl, h4⟩
  clear HC4 h2
  go_wp2_with fail
  refine wp_loop_rounds 2 ?_
  rw [rounds_succ]
  go_wp2_with fail
  refine wp_loop_rounds 2 ?_
  rw [rounds_succ]
  go_wp2_with fail
  refine (HC3.out _ h4).mono ?_
  rintro e w3 ⟨rfl, h3⟩
  clear HC3 h4
  go_wp2_with fail
  rw [rounds_succ]
  go_wp2_with fail
  rw [rounds_succ]
  go_wp2
  go_end0
  exact ⟨rfl, h3⟩
theorem ins0_of (A : Option Addr) (c : Nat) (fv : Value) (w : World) : Calls Tryz.prog 80 #[.slice A 0 c, .int .i64 0, .int .i64 0, fv] w fun e w' => e = .returned (.tuple #[]) ∧ w' = w := by
 go_enter func80, ntmps80
 go_wp2_with fail
 refine wp_loop_rounds 1 ?_
 rw [rounds_succ]
 go_wp2
 go_end0
 exact ⟨rfl, rfl⟩
theorem stab0_of (A : Option Addr) (c : Nat) (w : World) : Calls Tryz.prog 51 #[.slice A 0 c, .int .i64 0, .func (.func 27) #[] #[]] w fun e w' => e = .returned (.tuple #[]) ∧ w' = w := by
 go_enter func51, ntmps51
 go_wp2_with fail
 refine wp_loop_rounds 1 ?_
 rw [rounds_succ]
 go_wp2_with fail
 refine (ins0_of A c _ w).mono ?_
 rintro e w1 ⟨rfl, rfl⟩
 go_wp2_with fail
 refine wp_loop_rounds 1 ?_
 rw [rounds_succ]
 go_wp2
 go_end0
 exact ⟨rfl, rfl⟩
theorem sortS_of (B : Nat) (v : Value) (l : List Dg.Cl) (h40 : l.length ≤ 40) (w : World) (hB : B ≤ w.heap.size) (hO : Own1 clL 55 w B v l) :
  Calls Tryz.prog 26 #[v, .func (.func 27) #[] #[]] w fun e w' => e = .returned (.tuple #[]) ∧ Own1 clL 55 w' B v (Dg.stabJ ltK l) ∧ Below B w w' := by
 rcases Nat.eq_zero_or_pos l.length with h0 | h0
 ·obtain ⟨A, c, rfl, _, _⟩ := hO.row
  obtain rfl := List.length_eq_zero_iff.1 h0
  have HO := hide hO
  clear hO h0 h40
  go_enter func26, ntmps26
  go_wp2_with fail
  refine (stab0_of A c w).mono ?_
  rintro e w1 ⟨rfl, rfl⟩
  go_wp2
  go_end0
  exact ⟨rfl, HO.out, Below.refl _ _⟩
 ·obtain ⟨g, cap, sp, rfl, hBg, _, hgr, hcn, hcm, hsp⟩ := hO.form h0
  obtain ⟨L, hL⟩ : ∃ L, l.length = L := ⟨_, rfl⟩
  obtain ⟨R, hR⟩ : ∃ R, Dg.stabJ ltK l = R := ⟨_, rfl⟩
  have hRL : R.length = L := by rw [← hR, Dg.stabJ_len]; exact hL
  rw [hL] at h40 hcn hsp ⊢
  rw [hR]
  have HC := hide (stab_of g cap B sp w hBg hB L (by omega) l hL h40 R hR w ⟨hgr, Below.refl _ _⟩)
  have HF := hide (And.intro hBg (And.intro hcn (And.intro hcm (And.intro hsp hRL))))
  clear hO h0 h40 hBg hgr hcn hcm hsp hL hR hRL
  go_enter func26, ntmps26
  go_wp2_with fail
  refine HC.out.mono ?_
  rintro e w1 ⟨rfl, h1⟩
  clear HC
  go_wp2
  go_end0
  refine ⟨rfl, ?_, h1.below⟩
  have := Own1.mk (L := clL) HF.out.1 h1.row HF.out.2.2.1 (by rw [HF.out.2.2.2.2]; exact HF.out.2.1) (by rw [HF.out.2.2.2.2]; exact HF.out.2.2.2.1)
  rw [HF.out.2.2.2.2] at this
  exact this
def mvL (l : List Dg.Cl) (d : Int) (k : Nat) : List Dg.Cl := (l.take k).map (Dg.movC · d) ++ l.drop k
theorem mvL_len (l : List Dg.Cl) (d : Int) (k : Nat) : (mvL l d k).length = l.length := by
 unfold mvL
 rw [List.length_append, List.length_map, ← List.length_append, List.take_append_drop]
theorem mvL_at (l : List Dg.Cl) (d : Int) (k : Nat) : Dg.atJ (mvL l d k) k = Dg.atJ l k := by
 unfold mvL Dg.atJ
 rw [List.getD_eq_getElem?_getD, List.getD_eq_getElem?_getD]
 rcases Nat.lt_or_ge k l.length with h | h
 ·rw [List.getElem?_append_right (by rw [List.length_map, List.length_take]; omega), List.length_map, List.length_take, Nat.min_eq_left (Nat.le_of_lt h), Nat.sub_self, List.getElem?_drop, Nat.add_zero]
 ·rw [List.getElem?_eq_none h, List.getElem?_eq_none (by rw [List.length_append, List.length_map, ← List.length_append, List.take_append_drop]; exact h)]
theorem mvL_next (l : List Dg.Cl) (d : Int) (k : Nat) (h : k < l.length) (x : Dg.Cl) (hx : l[k] = x) : (mvL l d k).set k (Dg.movC x d) = mvL l d (k + 1) := by
 unfold mvL
 rw [List.set_append_right _ _ (by rw [List.length_map, List.length_take]; omega), List.length_map, List.length_take, Nat.min_eq_left (Nat.le_of_lt h), Nat.sub_self, List.drop_eq_getElem_cons h, hx, List.set_cons_zero, List.take_succ_eq_append_getElem h, hx, List.map_append, List.append_assoc]
 rfl
theorem movOk_next {l : List Dg.Cl} {k : Nat} (h : k < l.length) {x : Dg.Cl} (hx : l[k] = x) : (l.take (k + 1)).all Dg.movOk = ((l.take k).all Dg.movOk && Dg.movOk x) := by
 rw [List.take_succ_eq_append_getElem h, hx, List.all_append, List.all_cons, List.all_nil, Bool.and_true]
theorem all_not {l : List Dg.Cl} {k : Nat} (h : k < l.length) {x : Dg.Cl} (hx : l[k] = x) (hn : Dg.movOk x = false) : l.all Dg.movOk = false := by
 cases hc : l.all Dg.movOk with
 | false => rfl
 | true =>
  rw [List.all_eq_true] at hc
  have := hc _ (List.getElem_mem h)
  rw [hx, hn] at this
  cases this
theorem clC_mov (x : Dg.Cl) (d : Int) : (clC { x with id := Dg.movS x.id d }).toList = (clC x).toList.set 0 (.int .i64 (x.id.seat + d)) := rfl
theorem RowJ.part {g B : Nat} {sp : List Value} {l : List Dg.Cl} {X Y : World} (h : RowJ g sp B l X Y) (i j : Nat) (hi : i < l.length) (hj : j < 20) (x : Dg.Cl) (hx : Dg.atJ l i = x) (y : Dg.Cl) (v : Int) (hy : (clC y).toList = (clC x).toList.set j (.int .i64 v)) : (Instr.storeAt 3 (.pointer (some ⟨g, i * 20 + j, none⟩)) (.int .i64 v)).run Tryz.prog Y = .ok () (Y.setRow g (clL.flat (l.set i y) ++ sp).toArray) := by
 have e : l[i] = x := by
  rw [← hx]
  unfold Dg.atJ
  rw [List.getD_eq_getElem?_getD, List.getElem?_eq_getElem hi, Option.getD_some]
 have hf : (clL.flat l).length = l.length * 20 := clL.flat_len l
 have hsz : i * 20 + 20 ≤ l.length * 20 := by omega
 refine store_part (ty := 3) Y g (i * 20 + j) _ (.int .i64 v) _ h.row (by kernel_rfl) ?_ ?_ ?_
 ·show i * 20 + j + 1 ≤ (clL.flat l ++ sp).length
  rw [List.length_append, hf]
  omega
 ·intro u hu
  have : u = .int .i64 v := by simpa [Value.cells] using hu
  subst this
  rfl
 ·show (clL.flat l ++ sp).take (i * 20 + j) ++ [.int .i64 v] ++ (clL.flat l ++ sp).drop (i * 20 + j + 1) = clL.flat (l.set i y) ++ sp
  have h1 := clL.flat_split l i (Nat.le_of_lt hi)
  have h3 : l.drop i = x :: l.drop (i + 1) := by rw [← e]; exact List.drop_eq_getElem_cons hi
  have h4 : (clL.flat (l.take i)).length = i * 20 := h1.2
  have hxl : (clC x).toList.length = 20 := rfl
  rw [clL.flat_set l i hi y, h1.1, h3, clL.flat_cons]
  show (clL.flat (l.take i) ++ ((clC x).toList ++ clL.flat (l.drop (i + 1))) ++ sp).take (i * 20 + j) ++ [.int .i64 v] ++ (clL.flat (l.take i) ++ ((clC x).toList ++ clL.flat (l.drop (i + 1))) ++ sp).drop (i * 20 + j + 1) = clL.flat (l.take i) ++ ((clC y).toList ++ clL.flat (l.drop (i + 1))) ++ sp
  rw [hy, List.set_eq_take_append_cons_drop, if_pos (by rw [hxl]; exact hj)]
  simp only [List.append_assoc]
  rw [← h4, List.take_length_add_append, Nat.add_assoc, List.drop_length_add_append, List.take_append_of_le_length (by rw [hxl]; omega), List.drop_append_of_le_length (by rw [hxl]; omega)]
  simp only [List.append_assoc, List.cons_append, List.nil_append]
theorem ptr_ne {w : World} {g a b : Nat} {cs : Array Value} {t : TypeId} (h : w.heap[g]? = some (.cells cs t (0, 0))) (hne : a ≠ b) : (binOp .eql 126 (.pointer (some ⟨g, a, none⟩)) (.pointer (some ⟨g, b, none⟩))).run Tryz.prog w = .ok (.bool false) w := by
 have hi : (Tryz.prog.info? 49).map (·.size) = some 2 := by kernel_rfl
 cases hq : Tryz.prog.info? 49 with
 | none => rw [hq] at hi; cases hi
 | some j =>
  rw [hq] at hi
  injection hi with hi
  exact run_eql_ptr_other w (te := 49) underlying126 hq (by have : j.size = 2 := hi; omega) (fun e => by injection e with _ e _; exact hne e) h h
theorem ptr_eq (w : World) (a : Addr) : (binOp .eql 126 (.pointer (some a)) (.pointer (some a))).run Tryz.prog w = .ok (.bool true) w := by
 have hi : (Tryz.prog.info? 49).map (·.size) = some 2 := by kernel_rfl
 cases hq : Tryz.prog.info? 49 with
 | none => rw [hq] at hi; cases hi
 | some j => exact run_eql_ptr_same w (te := 49) a underlying126 hq
theorem movOk_no {x : Dg.Cl} (h : Dg.seatOk x.id = false) : Dg.movOk x = false := by unfold Dg.movOk; rw [h, Bool.false_and]
theorem movOk_no2 {x : Dg.Cl} (h0 : x.after ≠ Dg.Sp0) (h : Dg.seatOk x.after = false) : Dg.movOk x = false := by unfold Dg.movOk; rw [h, decide_eq_false h0, Bool.or_false, Bool.and_false]
theorem movC_zero {x : Dg.Cl} (h0 : x.after = Dg.Sp0) (d : Int) : ({ x with id := Dg.movS x.id d } : Dg.Cl) = Dg.movC x d := by unfold Dg.movC; rw [if_pos h0, ← h0]
theorem clC_mov2 {x : Dg.Cl} (h0 : x.after ≠ Dg.Sp0) (d : Int) : (clC (Dg.movC x d)).toList = (clC ({ x with id := Dg.movS x.id d } : Dg.Cl)).toList.set 2 (.int .i64 (x.after.seat + d)) := by unfold Dg.movC; rw [if_neg h0]; rfl
attribute [-go_sem] Instr.storeAt run_eql_struct in
theorem moved_of (l : List Dg.Cl) (A : Option Addr) (n c : Nat) (hn : l.length = n) (hn2 : n ≤ 1000000) (d : Int) (hd0 : 0 ≤ d) (hd1 : d ≤ 100) (w : World) (hI : Row1 clL w w.heap.size A l) (q : Option (List Dg.Cl)) (hq : Dg.movedC l d = q) :
  Calls Tryz.prog 25 #[.slice A n c, .int .i64 d] w fun e w' => ∃ v', e = .returned (.tuple #[v', .bool q.isSome]) ∧ Own1 clL 55 w' w.heap.size v' (q.getD []) ∧ Below w.heap.size w w' := by
 have hmx := hmxQ
 have HQ := hide hq; have HI := hide hI; have HN := hide hn
 clear hq hI hn
 go_enter func25, ntmps25
 go_wp2_with fail
 refine (cloneC_any A n c l w HN.out (by omega) w.heap.size HI.out (Nat.le_refl _)).mono ?_
 rintro e w1 ⟨v1, rfl, hO, hb⟩
 rcases Nat.eq_zero_or_pos n with h0 | h0
 ·obtain ⟨A1, c1, rfl, _, _⟩ := hO.row
  have hl : l = [] := List.length_eq_zero_iff.1 (by rw [HN.out]; exact h0)
  subst hl
  have hqq := HQ.out
  have e0 : q = some [] := by rw [← hqq]; rfl
  subst e0
  have HO := hide (And.intro hO hb)
  clear hO hb h0 hqq
  go_wp2_with fail
  refine wp_loop_rounds 1 ?_
  rw [rounds_succ]
  go_wp2
  go_ret2
  exact ⟨_, rfl, HO.out.1, HO.out.2⟩
 obtain ⟨g, cap, sp, rfl, hBg, hgl, hgr, hcn, hcm, hsp⟩ := hO.form (by rw [HN.out]; exact h0)
 have hR0 : RowJ g sp w.heap.size (mvL l d 0) w w1 := ⟨by
  have : mvL l d 0 = l := by unfold mvL; rw [List.take_zero, List.map_nil, List.nil_append, List.drop_zero]
  rw [this]
  exact hgr, hb⟩
 have HF := hide (And.intro hBg (And.intro hcn (And.intro hcm hsp)))
 have H0 := hide (⟨hR0, by rw [List.take_zero]; rfl⟩ : RowJ g sp w.heap.size (mvL l d 0) w w1 ∧ (l.take 0).all Dg.movOk = true)
 rw [HN.out]
 clear hO hb hgr hR0 hcn hcm hsp hgl hBg
 go_wp2_with fail
 go_loopw [14] (fun iv wr => ∃ k : Nat, k ≤ n ∧ iv = .int .i64 k ∧ Hid (RowJ g sp w.heap.size (mvL l d k) w wr ∧ (l.take k).all Dg.movOk = true)) (fun iv _ => n - (intOf iv).toNat)
 case atStart => exact ⟨0, Nat.zero_le _, rfl, H0⟩
 case round =>
  clear H0
  obtain ⟨k, hk, rfl, HK⟩ := hrel
  by_cases hlt : k < n
  ·have hkl : k < l.length := by rw [HN.out]; exact hlt
   obtain ⟨x, hx⟩ : ∃ x, l[k] = x := ⟨_, rfl⟩
   have hxa : Dg.atJ (mvL l d k) k = x := by
    rw [mvL_at, ← hx]
    unfold Dg.atJ
    rw [List.getD_eq_getElem?_getD, List.getElem?_eq_getElem hkl, Option.getD_some]
   have i0 : (0 : Int) ≤ (k : Int) := by omega
   have i1 : (k : Int) < (n : Int) := by omega
   have HX := hide hx; have HXA := hide hxa
   clear hx hxa
   go_upto_region 5 with fail
   refine wp_region_noPanic ?_
   refine wp_region_L (fun _ => True) 99 hmx ?_
   have hR := HK.out.1.next (Nat.le_refl _) (Below.refl _ _).drew
   have HOK := hide HK.out.2
   clear HK
   generalize wr.drew = u0 at *
   refine tU 0 13 (trivial : True) rfl ?_
   refine tU 1 13 (trivial : True) rfl ?_
   refine tU 2 13 (trivial : True) rfl ?_
   refine tU 3 13 (trivial : True) rfl ?_
   refine tU 4 13 (trivial : True) rfl ?_
   refine tU 5 13 (trivial : True) rfl ?_
   refine tU 6 13 (trivial : True) rfl ?_
   refine tU 7 13 (trivial : True) rfl ?_
   refine tU 10 13 (trivial : True) rfl ?_
   refine oY 8 fun K hK => ?_
   go_simp
   refine hK.out _ _ (Or.inr trivial) ?_
   clear hK K
   try simp only [Act.put, pu]
   refine tU 9 13 (trivial : True) rfl ?_
   refine dnY ?_
   have hbn := nwB u0 (.cells #[.pointer (some ⟨g, k * 20, none⟩), .pointer (some ⟨g, k * 20 + 2, none⟩)] 126)
   have rb := heap_alloc_new u0 (.cells #[.pointer (some ⟨g, k * 20, none⟩), .pointer (some ⟨g, k * 20 + 2, none⟩)] 126)
   have hR1 := hR.next (Nat.le_refl _) hbn
   have hgu := lt_of_block hR.row
   obtain ⟨b, hbu⟩ : ∃ b, b = u0.heap.size := ⟨_, rfl⟩
   rw [← hbu] at rb hgu ⊢
   clear hbn hR hbu
   generalize u0.alloc (.cells #[.pointer (some ⟨g, k * 20, none⟩), .pointer (some ⟨g, k * 20 + 2, none⟩)] 126) = u1 at *
   have cb0 : u1.cell? ⟨b, 0, none⟩ = some (.pointer (some ⟨g, k * 20, none⟩)) := cell_of_row _ _ 0 _ _ _ rb
   have hmk : k < (mvL l d k).length := by rw [mvL_len]; exact hkl
   have hp1 := ptr_ne (a := k * 20) (b := k * 20 + 2) hR1.row (by omega)
   have c0 : u1.cell? ⟨g, k * 20, none⟩ = some (.int .i64 x.id.seat) := hR1.at k hmk HXA.out 0 _ rfl
   have HR1 := hide hR1; have HRB := hide rb
   clear hR1 rb
   go_wp2_with fail
   refine wp_loop_rounds 3 ?_
   rw [rounds_succ]
   by_cases hs : Dg.seatOk x.id = true
   ·have hs2 := hs
    unfold Dg.seatOk at hs2
    obtain ⟨s0, s1⟩ := of_decide_eq_true hs2
    have HS := hide hs
    have hst := HR1.out.part k 0 hmk (by decide) x HXA.out { x with id := Dg.movS x.id d } (x.id.seat + d) (clC_mov x d)
    rw [Nat.add_zero] at hst
    have hR2 := HR1.out.set HF.out.1 k { x with id := Dg.movS x.id d }
    have hb2 := (setRow_other u1 g b (clL.flat ((mvL l d k).set k { x with id := Dg.movS x.id d }) ++ sp).toArray (by omega)).trans HRB.out
    have hl2 : k < ((mvL l d k).set k { x with id := Dg.movS x.id d }).length := by rw [List.length_set]; exact hmk
    have hx2 : Dg.atJ ((mvL l d k).set k { x with id := Dg.movS x.id d }) k = { x with id := Dg.movS x.id d } := by
     unfold Dg.atJ
     rw [List.getD_eq_getElem?_getD, List.getElem?_set_self hmk, Option.getD_some]
    have hss : (mvL l d k).set k { x with id := Dg.movS x.id d } = (mvL l d k).set k { x with id := Dg.movS x.id d } := rfl
    have HL2 := hide hl2; have HX2 := hide hx2
    clear hs hs2 HR1 HRB hl2 hx2 hss
    go_upto_region 12 with fail
    clear hst hp1 c0 cb0
    generalize u1.setRow g (clL.flat ((mvL l d k).set k { x with id := Dg.movS x.id d }) ++ sp).toArray = u2 at *
    have HR2 := hide hR2; have HB2 := hide hb2
    have cb1 : u2.cell? ⟨b, 1, none⟩ = some (.pointer (some ⟨g, k * 20 + 2, none⟩)) := cell_of_row _ _ 1 _ _ _ hb2
    have hp2 := ptr_eq u2 ⟨g, k * 20 + 2, none⟩
    have a0 : u2.cell? ⟨g, k * 20 + 2, none⟩ = some (.int .i64 x.after.seat) := hR2.at k HL2.out HX2.out 2 _ rfl
    have a1 : u2.cell? ⟨g, k * 20 + 2 + 1, none⟩ = some (.int .i64 x.after.count) := hR2.at k HL2.out HX2.out 3 _ rfl
    have hse := stamp_run u2 x.after.seat x.after.count 0 0
    clear hR2 hb2
    go_wp2_with fail
    rw [rounds_succ]
    by_cases hz : x.after = Dg.Sp0
    ·have hzs : sameS ⟨x.after.seat, x.after.count⟩ ⟨0, 0⟩ = true := (sameS_iff _ _).2 hz
     rw [hzs] at hse
     clear hzs
     have HN := hide (⟨by
       rw [← mvL_next l d k hkl x HX.out, ← movC_zero hz]
       exact HR2.out, by rw [movOk_next hkl HX.out, HOK.out]; unfold Dg.movOk; rw [HS.out, decide_eq_true hz]; rfl⟩ : RowJ g sp w.heap.size (mvL l d (k + 1)) w u2 ∧ (l.take (k + 1)).all Dg.movOk = true)
     clear hz
     go_wp2_with fail
     rw [rounds_succ]
     clear hse a0 a1 cb1 hp2
     go_wp2_with fail
     go_roundw
     case rel => exact ⟨k + 1, by omega, by go_num, HN⟩
     case measure => first | (simp [intOf]; done) | (simp [intOf]; omega)
    ·have hzs : sameS ⟨x.after.seat, x.after.count⟩ ⟨0, 0⟩ = false := by
      cases hq : sameS ⟨x.after.seat, x.after.count⟩ ⟨0, 0⟩ with
      | false => rfl
      | true => exact absurd ((sameS_iff _ _).1 hq) hz
     rw [hzs] at hse
     clear hzs
     by_cases hs2 : Dg.seatOk x.after = true
     ·have hs3 := hs2
      unfold Dg.seatOk at hs3
      obtain ⟨t0, t1⟩ := of_decide_eq_true hs3
      have HS2 := hide hs2
      have hst := HR2.out.part k 2 HL2.out (by decide) _ HX2.out (Dg.movC x d) (x.after.seat + d) (clC_mov2 hz d)
      have hR3 := HR2.out.set HF.out.1 k (Dg.movC x d)
      rw [List.set_set, mvL_next l d k hkl x HX.out] at hR3 hst
      have HN := hide (⟨hR3, by rw [movOk_next hkl HX.out, HOK.out]; unfold Dg.movOk; rw [HS.out, HS2.out, Bool.or_true]; rfl⟩ : RowJ g sp w.heap.size (mvL l d (k + 1)) w (u2.setRow g (clL.flat (mvL l d (k + 1)) ++ sp).toArray) ∧ (l.take (k + 1)).all Dg.movOk = true)
      clear hs2 hs3 hR3 HR2
      go_upto_region 12 with fail
      clear hst hse a0 a1 cb1 hp2
      generalize u2.setRow g (clL.flat (mvL l d (k + 1)) ++ sp).toArray = u3 at *
      go_wp2_with fail
      rw [rounds_succ]
      go_wp2_with fail
      go_roundw
      case rel => exact ⟨k + 1, by omega, by go_num, HN⟩
      case measure => first | (simp [intOf]; done) | (simp [intOf]; omega)
     ·have hs4 : Dg.seatOk x.after = false := by cases hq : Dg.seatOk x.after with | false => rfl | true => exact absurd hq hs2
      have hq0 : q = none := by
       rw [← HQ.out]
       exact if_neg (by rw [all_not hkl HX.out (movOk_no2 hz hs4)]; decide)
      have HB3 := hide HR2.out.below
      unfold Dg.seatOk at hs4
      have hs5 := of_decide_eq_false hs4
      subst hq0
      clear hs2 hs4 HR2 HF HOK HQ
      by_cases t0 : x.after.seat < 0
      all_goals go_wp2
      all_goals first | (exfalso; omega) | skip
      all_goals go_ret2
      all_goals exact ⟨_, rfl, Own1.nil _ _ _ _, HB3.out⟩
   ·have hs4 : Dg.seatOk x.id = false := by cases hq : Dg.seatOk x.id with | false => rfl | true => exact absurd hq hs
    have hq0 : q = none := by
     rw [← HQ.out]
     exact if_neg (by rw [all_not hkl HX.out (movOk_no hs4)]; decide)
    have HB3 := hide HR1.out.below
    unfold Dg.seatOk at hs4
    have hs5 := of_decide_eq_false hs4
    subst hq0
    clear hs hs4 HR1 HF HOK HQ
    by_cases t0 : x.id.seat < 0
    all_goals go_wp2
    all_goals first | (exfalso; omega) | skip
    all_goals go_ret2
    all_goals exact ⟨_, rfl, Own1.nil _ _ _ _, HB3.out⟩
  ·obtain rfl : k = n := by omega
   have hall : l.all Dg.movOk = true := by
    have := HK.out.2
    rwa [List.take_of_length_le (Nat.le_of_eq HN.out)] at this
   have hq0 : q = some (l.map (Dg.movC · d)) := by
    rw [← HQ.out]
    exact if_pos hall
   have hmv : mvL l d k = l.map (Dg.movC · d) := by
    unfold mvL
    rw [List.take_of_length_le (Nat.le_of_eq HN.out), List.drop_of_length_le (Nat.le_of_eq HN.out), List.append_nil]
   have hr := HK.out.1
   rw [hmv] at hr
   have hO : Own1 clL 55 wr w.heap.size (.slice (some ⟨g, 0, none⟩) k cap) (l.map (Dg.movC · d)) := by
    have := Own1.mk (L := clL) (l := l.map (Dg.movC · d)) HF.out.1 hr.row HF.out.2.2.1 (by rw [List.length_map]; exact HF.out.2.1) (by rw [List.length_map]; exact HF.out.2.2.2)
    rw [List.length_map, HN.out] at this
    exact this
   have HO := hide (And.intro hO hr.below)
   subst hq0
   clear hall hmv hr hO HK HF HQ
   go_wp2
   go_ret2
   exact ⟨_, rfl, HO.out.1, HO.out.2⟩
namespace Dg
section
variable {P : Cl → Prop}
theorem atJ_all {l : List Cl} (h : ∀ x ∈ l, P x) (h0 : P Cl0) (i : Nat) : P (atJ l i) := by
 unfold atJ
 rw [List.getD_eq_getElem?_getD]
 cases hq : l[i]? with
 | none => exact h0
 | some x => exact h x (List.mem_of_getElem? hq)
theorem swpJ_all {l : List Cl} (h : ∀ x ∈ l, P x) (h0 : P Cl0) (i j : Nat) : ∀ x ∈ swpJ l i j, P x := fun x hx => by
 unfold swpJ at hx
 rcases List.mem_or_eq_of_mem_set hx with hx | rfl
 ·rcases List.mem_or_eq_of_mem_set hx with hx | rfl
  ·exact h x hx
  ·exact atJ_all h h0 j
 ·exact atJ_all h h0 i
theorem insJ_all (lt : Cl → Cl → Bool) (a : Nat) (h0 : P Cl0) : ∀ (j : Nat) (l : List Cl), (∀ x ∈ l, P x) → ∀ x ∈ insJ lt a j l, P x
 | 0, _, h => h
 | j + 1, l, h => by
  unfold insJ
  split
  ·exact insJ_all lt a h0 j _ (swpJ_all h h0 _ _)
  ·exact h
theorem insR_all (lt : Cl → Cl → Bool) (a : Nat) (h0 : P Cl0) : ∀ (k i : Nat) (l : List Cl), (∀ x ∈ l, P x) → ∀ x ∈ insR lt a k i l, P x
 | 0, _, _, h => h
 | k + 1, i, l, h => by
  unfold insR
  exact insR_all lt a h0 k _ _ (insJ_all lt a h0 i l h)
theorem swrJ_all (a b : Nat) (h0 : P Cl0) : ∀ (k i : Nat) (l : List Cl), (∀ x ∈ l, P x) → ∀ x ∈ swrJ a b k i l, P x
 | 0, _, _, h => h
 | k + 1, i, l, h => by
  unfold swrJ
  exact swrJ_all a b h0 k _ _ (swpJ_all h h0 _ _)
theorem rotJ_all (m : Nat) (h0 : P Cl0) : ∀ (f i j : Nat) (l : List Cl), (∀ x ∈ l, P x) → ∀ x ∈ rotJ m f i j l, P x
 | 0, _, _, _, h => h
 | f + 1, i, j, l, h => by
  unfold rotJ
  split
  ·exact swrJ_all _ _ h0 _ _ _ h
  ·split
   ·exact rotJ_all m h0 f _ _ _ (swrJ_all _ _ h0 _ _ _ h)
   ·exact rotJ_all m h0 f _ _ _ (swrJ_all _ _ h0 _ _ _ h)
theorem shuJ_all (h0 : P Cl0) : ∀ (n k : Nat) (l : List Cl), (∀ x ∈ l, P x) → ∀ x ∈ shuJ n k l, P x
 | 0, _, _, h => h
 | n + 1, k, l, h => by
  unfold shuJ
  exact shuJ_all h0 n _ _ (swpJ_all h h0 _ _)
theorem shdJ_all (h0 : P Cl0) : ∀ (n k : Nat) (l : List Cl), (∀ x ∈ l, P x) → ∀ x ∈ shdJ n k l, P x
 | 0, _, _, h => h
 | n + 1, k, l, h => by
  unfold shdJ
  exact shdJ_all h0 n _ _ (swpJ_all h h0 _ _)
theorem turnJ_all (h0 : P Cl0) (m st en : Nat) (l : List Cl) (h : ∀ x ∈ l, P x) : ∀ x ∈ turnJ m st en l, P x := by
 unfold turnJ
 split
 ·exact rotJ_all _ h0 _ _ _ _ h
 ·exact h
theorem symJ_all (lt : Cl → Cl → Bool) (h0 : P Cl0) : ∀ (f a m b : Nat) (l : List Cl), (∀ x ∈ l, P x) → ∀ x ∈ symJ lt f a m b l, P x
 | 0, _, _, _, _, h => h
 | f + 1, a, m, b, l, h => by
  have ht := turnJ_all h0 m (cutJ lt a m b l) ((a + b) / 2 + m - cutJ lt a m b l) l h
  unfold symJ
  split
  ·exact shuJ_all h0 _ _ _ h
  ·split
   ·exact shdJ_all h0 _ _ _ h
   ·dsimp only
    split
    ·refine symJ_all lt h0 f _ _ _ _ ?_
     split
     ·exact symJ_all lt h0 f _ _ _ _ ht
     ·exact ht
    ·split
     ·exact symJ_all lt h0 f _ _ _ _ ht
     ·exact ht
theorem stabJ_all (lt : Cl → Cl → Bool) (h0 : P Cl0) (l : List Cl) (h : ∀ x ∈ l, P x) : ∀ x ∈ stabJ lt l, P x := by
 unfold stabJ
 split
 ·exact insR_all lt _ h0 _ _ _ h
 ·split
  ·exact insR_all lt _ h0 _ _ _ h
  ·exact symJ_all lt h0 _ _ _ _ _ (insR_all lt _ h0 _ _ _ (insR_all lt _ h0 _ _ _ h))
end
section
variable {P : Pt → Prop}
structure PgP (P : Pt → Prop) (pg : List Cl) : Prop where
 nd : NdC pg
 ok : ∀ c ∈ pg, clOk c = true
 pt : ∀ c ∈ pg, P c.patch
theorem PgP.nil : PgP P [] := ⟨List.nodup_nil, fun _ h => (List.not_mem_nil h).elim, fun _ h => (List.not_mem_nil h).elim⟩
theorem PgP.put {pg : List Cl} (h : PgP P pg) (c : Cl) (hc : P c.patch) : PgP P (putC pg c).1 ∧ (putC pg c).1.length ≤ pg.length + 1 := by
 unfold putC
 split
 ·exact ⟨h, Nat.le_succ _⟩
 ·rename_i hok
  split
  ·rename_i o ho
   split
   ·obtain ⟨hm, he⟩ := getC_some ho
    refine ⟨⟨?_, ?_, ?_⟩, ?_⟩
    ·show (_ : List Sp).Nodup
     rw [setC_ids]
     exact h.nd
    ·intro y hy
     rcases mem_setC hy with rfl | ⟨hy, _⟩
     ·exact h.ok o hm
     ·exact h.ok y hy
    ·intro y hy
     rcases mem_setC hy with rfl | ⟨hy, _⟩
     ·exact h.pt o hm
     ·exact h.pt y hy
    ·unfold setC
     rw [List.length_map]
     exact Nat.le_succ _
   ·exact ⟨h, Nat.le_succ _⟩
  ·rename_i hn
   split
   ·exact ⟨h, Nat.le_succ _⟩
   ·split
    ·exact ⟨h, Nat.le_succ _⟩
    ·refine ⟨⟨?_, ?_, ?_⟩, ?_⟩
     ·show (_ : List Sp).Nodup
      rw [List.map_append, List.nodup_append]
      refine ⟨h.nd, List.nodup_cons.2 ⟨List.not_mem_nil, List.nodup_nil⟩, ?_⟩
      intro a ha b hb e
      obtain ⟨y, hy, rfl⟩ := List.mem_map.1 ha
      rw [List.map_cons, List.map_nil, List.mem_singleton] at hb
      exact getC_none hn y hy (e.trans hb)
     ·intro y hy
      rcases List.mem_append.1 hy with hy | hy
      ·exact h.ok y hy
      ·rw [List.mem_singleton] at hy
       subst hy
       cases hq : clOk y with
       | true => rfl
       | false => exact absurd hq hok
     ·intro y hy
      rcases List.mem_append.1 hy with hy | hy
      ·exact h.pt y hy
      ·rw [List.mem_singleton] at hy
       subst hy
       exact hc
     ·rw [List.length_append]
      exact Nat.le_refl _
theorem PgP.puts : ∀ (l : List Cl) {pg : List Cl}, PgP P pg → (∀ c ∈ l, P c.patch) → PgP P (putsC pg l).1 ∧ (putsC pg l).1.length ≤ pg.length + l.length
 | [], pg, h, _ => ⟨h, Nat.le_refl _⟩
 | c :: l, pg, h, hc => by
  have h1 := h.put c (hc c List.mem_cons_self)
  unfold putsC
  split
  ·have h2 := PgP.puts l h1.1 fun x hx => hc x (List.mem_cons_of_mem _ hx)
   exact ⟨h2.1, by rw [List.length_cons]; have := h2.2; have := h1.2; omega⟩
  ·exact ⟨PgP.nil, Nat.zero_le _⟩
theorem PgP.list {pg : List Cl} (h : PgP P pg) : (listC pg).length ≤ pg.length ∧ ∀ c ∈ listC pg, P c.patch := ⟨listC_len h.nd h.ok, fun c hc => h.pt c (walkC_mem hc)⟩
theorem moved_all {l x : List Cl} {k : Int} (h : movedC l k = some x) (hl : ∀ c ∈ l, P c.patch) : x.length = l.length ∧ ∀ c ∈ x, P c.patch := by
 unfold movedC at h
 split at h
 ·injection h with h
  subst h
  refine ⟨List.length_map _, fun c hc => ?_⟩
  obtain ⟨y, hy, rfl⟩ := List.mem_map.1 hc
  exact hl y hy
 ·cases h
theorem joinC_keeps {lt : Cl → Cl → Bool} {a b l : List Cl} {e : Int} (h : joinC (stabJ lt) a b = (l, e)) (h0 : P Cl0.patch) (ha : ∀ c ∈ a, P c.patch) (hb : ∀ c ∈ b, P c.patch) : l.length ≤ a.length + b.length ∧ ∀ c ∈ l, P c.patch := by
 unfold joinC at h
 split at h
 ·rename_i x y hx hy
  obtain ⟨lx, px⟩ := moved_all hx ha
  obtain ⟨ly, py⟩ := moved_all hy hb
  have hp : ∀ c ∈ stabJ lt (x ++ y), P c.patch := stabJ_all (P := fun c => P c.patch) lt h0 _ fun c hc => by
   rcases List.mem_append.1 hc with hc | hc
   ·exact px c hc
   ·exact py c hc
  have hq := PgP.puts (stabJ lt (x ++ y)) PgP.nil hp
  rw [stabJ_len, List.length_append, lx, ly, List.length_nil, Nat.zero_add] at hq
  split at h
  ·cases h
   exact ⟨Nat.le_trans hq.1.list.1 hq.2, hq.1.list.2⟩
  ·cases h
   exact ⟨Nat.zero_le _, fun _ hc => (List.not_mem_nil hc).elim⟩
 ·cases h
  exact ⟨Nat.zero_le _, fun _ hc => (List.not_mem_nil hc).elim⟩
theorem openL_len (l : List Cl) : (openL l).length ≤ l.length := List.length_filter_le _ _
theorem openL_all {l : List Cl} (h : ∀ c ∈ l, P c.patch) : ∀ c ∈ openL l, P c.patch := fun c hc => h c (List.mem_filter.1 hc).1
end
end Dg
theorem row_grown {β : Type} {M : Lay β} {e e2 : TypeId} {w w' : World} {b B2 : Nat} {cur : Array Value} {v2 : Value} {m : List β} (hh : w.heap[b]? = some (.cells cur e (0, 0))) (h2 : Own1 M e2 w B2 v2 m) (hne : e ≠ e2) (hg : w.grownBy w' v2.ownBlock) : w'.heap[b]? = some (.cells cur e (0, 0)) := by
 refine (hg.block b (lt_of_block hh) fun e9 => ?_).trans hh
 rcases h2.2 with ⟨rfl, _⟩ | ⟨b2, cap2, cur2, hv2, _, hh2, _⟩
 ·cases e9
 ·rw [hv2] at e9
  have e10 : b2 = b := by injection e9 with e9; exact e9.symm
  subst e10
  rw [hh] at hh2
  injection hh2 with hh2
  injection hh2 with _ hh2 _
  exact hne hh2
theorem own_grown {α β : Type} {L : Lay α} {M : Lay β} {e e2 : TypeId} {w w' : World} {B B2 : Nat} {v v2 : Value} {l : List α} {m : List β} (h : Own1 L e w B v l) (h2 : Own1 M e2 w B2 v2 m) (hne : e ≠ e2) (hg : w.grownBy w' v2.ownBlock) : Own1 L e w' B v l := by
 obtain ⟨h3, h4⟩ := h
 refine ⟨h3, ?_⟩
 rcases h4 with h4 | ⟨b, cap, cur, hv, hB, hh, r⟩
 ·exact Or.inl h4
 ·exact Or.inr ⟨b, cap, cur, hv, hB, row_grown hh h2 hne hg, r⟩
theorem Dg.putC_len (pg : List Dg.Cl) (c : Dg.Cl) : (Dg.putC pg c).1.length ≤ pg.length + 1 := by
 unfold Dg.putC
 split
 ·exact Nat.le_succ _
 ·split
  ·split
   ·unfold Dg.setC
    rw [List.length_map]
    exact Nat.le_succ _
   ·exact Nat.le_succ _
  ·split
   ·exact Nat.le_succ _
   ·split
    ·exact Nat.le_succ _
    ·rw [List.length_append]
     exact Nat.le_refl _
structure JoI (B g : Nat) (sp : List Value) (p m : Nat) (L pg : List Dg.Cl) (X Y : World) : Prop where
 row : 0 < L.length → g ≠ m ∧ Y.heap[g]? = some (.cells (clL.flat L ++ sp).toArray 55 (0, 0))
 page : PageAt Y p m pg
 hm : B ≤ m
 below : Below B X Y
theorem JoI.news {B g : Nat} {sp : List Value} {p m : Nat} {L pg : List Dg.Cl} {X Y : World} (h : JoI B g sp p m L pg X Y) (hB : B ≤ X.heap.size) (o : Obj) : JoI B g sp p m L pg X (Y.alloc o) :=
 have hb := nwB Y o
 ⟨fun h0 => ⟨(h.row h0).1, iNext (h.row h0).2 hb⟩, h.page.below hb, h.hm, h.below.trans (hb.mono (Nat.le_trans hB h.below.size))⟩
theorem JoI.put {B g : Nat} {sp : List Value} {p m : Nat} {L pg pg' : List Dg.Cl} {X Y Z : World} (h : JoI B g sp p m L pg X Y) (hB : B ≤ X.heap.size) (hp : PageAt Z p m pg') (hg : Y.grownBy Z (some m)) : JoI B g sp p m L pg' X Z :=
 ⟨fun h0 => ⟨(h.row h0).1, (hg.block g (lt_of_block (h.row h0).2) (fun e => (h.row h0).1 (by injection e))).trans (h.row h0).2⟩, hp, h.hm, h.below.trans ((Below.refl B Y).grown hg (Nat.le_trans hB h.below.size) fun k hk => by injection hk with hk; rw [← hk]; exact h.hm)⟩
attribute [-go_sem] Instr.storeAt in
theorem joinR_of (l1 : List Dg.Cl) (A1 : Option Addr) (n1 c1 : Nat) (hn1 : l1.length = n1) (hz1 : n1 ≤ 20) (l2 : List Dg.Cl) (A2 : Option Addr) (n2 c2 : Nat) (hn2 : l2.length = n2) (hz2 : n2 ≤ 20) (w : World) (hI1 : Row1 clL w w.heap.size A1 l1) (hI2 : Row1 clL w w.heap.size A2 l2) (Q : List Dg.Cl × Int) (hQ : Dg.joinC (Dg.stabJ ltK) l1 l2 = Q) :
  Calls Tryz.prog 9 #[.slice A1 n1 c1, .slice A2 n2 c2] w fun e w' => ∃ v', e = .returned (.tuple #[v', .int .i64 Q.2]) ∧ Own1 clL 55 w' w.heap.size v' Q.1 ∧ Below w.heap.size w w' := by
 obtain ⟨x, hx⟩ : ∃ x, Dg.movedC l1 0 = x := ⟨_, rfl⟩
 obtain ⟨y, hy⟩ : ∃ y, Dg.movedC l2 100 = y := ⟨_, rfl⟩
 have hQ2 := hQ
 unfold Dg.joinC at hQ2
 rw [hx, hy] at hQ2
 have HC1 := hide (moved_of l1 A1 n1 c1 hn1 (by omega) 0 (by omega) (by omega) w hI1 x hx)
 have HC2 := hide (fun (u : World) (hu : Below w.heap.size w u) => moved_of l2 A2 n2 c2 hn2 (by omega) 100 (by omega) (by omega) u ((hI2.below hu).more hu.size) y hy)
 have hlx : ∀ z, x = some z → z.length = n1 := fun z hz => by
  rw [hz] at hx
  rw [← hn1]
  exact (Dg.moved_all (P := fun _ => True) hx fun _ _ => trivial).1
 have hly : ∀ z, y = some z → z.length = n2 := fun z hz => by
  rw [hz] at hy
  rw [← hn2]
  exact (Dg.moved_all (P := fun _ => True) hy fun _ _ => trivial).1
 have HX := hide hlx; have HY := hide hly; have HQ := hide hQ2
 clear hQ hQ2 hx hy hI1 hI2 hn1 hn2 hlx hly
 go_enter func9, ntmps9
 go_wp2_with fail
 refine HC1.out.mono ?_
 rintro e w1 ⟨v1, rfl, hO1, hb1⟩
 go_wp2_with fail
 refine (HC2.out w1 hb1).mono ?_
 rintro e w2 ⟨v2, rfl, hO2, hb2⟩
 have HB2 := hide (bnext hb1 hb2)
 have HO1 := hide (hO1.below hb2)
 have HO2 := hide (hO2.low hb1.size)
 clear HC1 HC2 hb1 hb2 hO1 hO2
 cases x with
 | none =>
  have hq : Q = ([], 1) := HQ.out.symm
  subst hq
  go_wp2
  all_goals go_ret2
  all_goals exact ⟨_, rfl, Own1.nil _ _ _ _, HB2.out⟩
 | some x =>
 cases y with
 | none =>
  have hq : Q = ([], 1) := HQ.out.symm
  subst hq
  go_wp2
  all_goals go_ret2
  all_goals exact ⟨_, rfl, Own1.nil _ _ _ _, HB2.out⟩
 | some y =>
  have hxl := HX.out x rfl
  have hyl := HY.out y rfl
  have HO3 : Own1 clL 55 w2 w.heap.size v1 x := HO1.out
  have HO4 : Own1 clL 55 w2 w.heap.size v2 y := HO2.out
  obtain ⟨Ay, cy, hvy, hry, _⟩ := HO4.row
  clear HO1 HO2 HO4
  rw [hyl] at hvy
  subst hvy
  have HRY := hry
  have hsz2 := HB2.out.size
  clear HX HY hry
  go_wp2_with (at_builtin; go_loud (refine step_app1 (L := clL) rfl (.tmp 31) (.tmp 32) 30 55 _ 248 rfl underlying30 clauseInfo rfl (by decide) w.heap.size w2.heap.size _ x y rfl HO3 Ay n2 cy rfl hyl HRY (by omega) (by decide) hsz2 ?_))
  intro v3 w3 h1 h2 _ _
  clear HO3 HRY
  have hlen : (x ++ y).length ≤ 40 := by rw [List.length_append]; omega
  have hB3 := HB2.out.trans h2
  have HS := hide (sortS_of w.heap.size v3 (x ++ y) hlen w3 hB3.size h1)
  have HB3 := hide hB3; have HLN := hide hlen
  clear h1 h2 hB3 hlen hsz2 hxl hyl HB2
  go_wp2_with fail
  refine HS.out.mono ?_
  rintro e w4 ⟨rfl, hO4, hb4⟩
  have HB4 := hide (HB3.out.trans hb4)
  clear hb4 HS HB3
  obtain ⟨L, hL⟩ : ∃ L, Dg.stabJ ltK (x ++ y) = L := ⟨_, rfl⟩
  have hLl : L.length ≤ 40 := by rw [← hL, Dg.stabJ_len]; exact HLN.out
  rw [hL] at hO4
  obtain ⟨N, hN⟩ : ∃ N, L.length = N := ⟨_, rfl⟩
  obtain ⟨Rp, hRp⟩ : ∃ Rp, Dg.putsC [] L = Rp := ⟨_, rfl⟩
  have hQ : (if Rp.2 = 0 then (Dg.listC Rp.1, 0) else (([], Rp.2) : List Dg.Cl × Int)) = Q := by
   have := HQ.out
   rw [hL, hRp] at this
   exact this
  have hPg : ∀ c ∈ Rp.1, Dg.clOk c = true := by
   rw [← hRp]
   exact (Dg.PgP.puts (P := fun _ => True) L Dg.PgP.nil fun _ _ => trivial).1.ok
  obtain ⟨A3, c3, hv3, _, _⟩ := hO4.row
  have hform : ∃ g sp, 0 < L.length → A3 = some ⟨g, 0, none⟩ ∧ g < w4.heap.size ∧ w4.heap[g]? = some (.cells (clL.flat L ++ sp).toArray 55 (0, 0)) := by
   rcases Nat.eq_zero_or_pos L.length with h0 | h0
   ·exact ⟨0, [], fun h => by omega⟩
   ·obtain ⟨g, cap, sp, he, _, hgl, hgr, _⟩ := hO4.form h0
    rw [hv3] at he
    injection he with he
    exact ⟨g, sp, fun _ => ⟨he, hgl, hgr⟩⟩
  obtain ⟨g, sp, hform⟩ := hform
  subst hv3
  rw [hN]
  have HQ2 := hide hQ; have HPg := hide hPg; have HF := hide hform; have HN := hide hN; have HRp := hide hRp; have hN40 : N ≤ 40 := by omega
  clear hQ hPg hform hN hRp hO4 hL hLl HQ HLN
  go_wp2_with fail
  refine (pageNew_of w4).mono ?_
  rintro e w5 ⟨p, m, rfl, hp, hm, hpg, hb5⟩
  have hJ : JoI w.heap.size g sp p m L [] w w5 := ⟨fun h0 => ⟨by have := (HF.out h0).2.1; omega, iNext (HF.out h0).2.2 hb5⟩, hpg, Nat.le_trans HB4.out.size hm, bnext HB4.out hb5⟩
  have HJ := hide (⟨hJ, HRp.out, Nat.le_refl _⟩ : JoI w.heap.size g sp p m L [] w w5 ∧ Dg.putsC [] L = Rp ∧ ([] : List Dg.Cl).length ≤ 0)
  clear hJ hpg hb5 hp hm HB4 HRp
  go_wp2_with fail
  go_loopw [39] (fun iv wr => ∃ (k : Nat) (pg : List Dg.Cl), k ≤ N ∧ iv = .int .i64 k ∧ Hid (JoI w.heap.size g sp p m L pg w wr ∧ Dg.putsC pg (L.drop k) = Rp ∧ pg.length ≤ k)) (fun iv _ => N - (intOf iv).toNat)
  case atStart => exact ⟨0, [], Nat.zero_le _, rfl, by rw [List.drop_zero]; exact HJ⟩
  case round =>
   clear HJ
   obtain ⟨k, pg, hk, rfl, HK⟩ := hrel
   by_cases hlt : k < N
   ·have hkl : k < L.length := by rw [HN.out]; exact hlt
    obtain ⟨c, hc⟩ : ∃ c, L[k] = c := ⟨_, rfl⟩
    obtain ⟨hJ, hpt, hpl⟩ := HK.out
    have hA3 := (HF.out (by omega)).1
    subst hA3
    rw [List.drop_eq_getElem_cons hkl, hc, Dg.putsC] at hpt
    obtain ⟨pg', E, hpc⟩ : ∃ pg' E, Dg.putC pg c = (pg', E) := ⟨_, _, rfl⟩
    rw [hpc] at hpt
    replace hpt : (if E = 0 then Dg.putsC pg' (L.drop (k + 1)) else (([], E) : List Dg.Cl × Int)) = Rp := hpt
    have hrg := range_of (hJ.row (by omega)).2 (k * 20) (clC c).toList (by rw [← hc]; exact flat_at L sp k hkl)
    have HRG := hide hrg
    have hst := store_newcl wr c
    have hJ2 := hJ.news (Nat.le_refl _) (.cells (clC c) 55)
    have r7 := heap_alloc_new wr (.cells (clC c) 55)
    have HJ2 := hide hJ2; have HR7 := hide r7; have HPT := hide hpt; have HPC := hide hpc; have HPL := hide hpl
    clear hJ hpt hpl hc hrg hJ2 r7 hpc HK
    go_upto_region 11 with (with_reducible refine wpList_load_mid rfl 55 (.tmp 41) rfl g (k * 20) rfl _ _ HRG.out underlying55 rfl (by kernel_rfl) ?_)
    clear hst HRG
    obtain ⟨b7, hb7⟩ : ∃ b7, b7 = wr.heap.size := ⟨_, rfl⟩
    rw [← hb7] at HR7 ⊢
    clear hb7
    generalize wr.alloc (.cells (clC c) 55) = u1 at *
    have HL7 := hide (range_of HR7.out 0 (clC c).toList rfl)
    go_wp2_with (with_reducible refine wpList_load_mid rfl 55 (.tmp 13) rfl b7 0 rfl _ _ HL7.out underlying55 rfl (by kernel_rfl) ?_)
    have hpu := pagePut_of p m pg (by have := HPL.out; omega) c u1 HJ2.out.page
    rw [HPC.out] at hpu
    refine hpu.mono ?_
    rintro e u2 ⟨rfl, hp2, hg2⟩
    have hJ3 := HJ2.out.put (Nat.le_refl _) hp2 hg2
    clear hpu hp2 hg2 HL7 HR7 HJ2
    by_cases hE : E = 0
    ·subst hE
     have hl' : pg'.length ≤ pg.length + 1 := by
      have := Dg.putC_len pg c
      rw [HPC.out] at this
      exact this
     have HN1 := hide (⟨hJ3, by rw [← HPT.out, if_pos rfl], by have := HPL.out; omega⟩ : JoI w.heap.size g sp p m L pg' w u2 ∧ Dg.putsC pg' (L.drop (k + 1)) = Rp ∧ pg'.length ≤ k + 1)
     clear hJ3 hl' HPT HPC HPL
     go_wp2_with fail
     go_roundw
     case rel => exact ⟨k + 1, pg', by omega, by go_num, HN1⟩
     case measure => first | (simp [intOf]; done) | (simp [intOf]; omega)
    ·have hEb : (E != 0) = true := by rw [bne, beq_eq_false_iff_ne.2 hE]; rfl
     have hq : Q = ([], E) := by
      have h1 := HPT.out
      rw [if_neg hE] at h1
      have h2 := HQ2.out
      rw [← h1] at h2
      rw [← h2]
      exact if_neg hE
     have HB9 := hide hJ3.below
     subst hq
     clear hJ3 HPT HPC HPL HQ2 HF HPg
     go_wp2
     go_ret2
     exact ⟨_, rfl, Own1.nil _ _ _ _, HB9.out⟩
   ·obtain rfl : k = N := by omega
    obtain ⟨hJ, hpt, hpl⟩ := HK.out
    rw [List.drop_of_length_le (Nat.le_of_eq HN.out)] at hpt
    have hpt2 : (pg, (0 : Int)) = Rp := hpt
    subst hpt2
    have hq : Q = (Dg.listC pg, 0) := by
     rw [← HQ2.out]
     exact if_pos rfl
    subst hq
    have HLI := hide (pageList_of p m pg HPg.out (by omega) wr hJ.page)
    have HB9 := hide hJ.below
    clear hJ hpt hpl HK HQ2 HPg HF
    go_wp2_with fail
    refine HLI.out.mono ?_
    rintro e w9 ⟨⟨v, rfl, hO⟩, hb9⟩
    have HO := hide (hO.low HB9.out.size)
    have HB10 := hide (bnext HB9.out hb9)
    clear hO hb9 HLI
    go_wp2
    go_ret2
    exact ⟨_, rfl, HO.out, HB10.out⟩
structure ResI (g : Nat) (sp : List Value) (ls : List Dg.Cl) (A : Option Addr) (n c : Nat) (lk : List Dg.It) (v8 v9 : Value) (T : List Dg.Pt) (S : List Dg.Sp) (w Y : World) : Prop where
 box : Y.heap[w.heap.size]? = some (.cells #[.slice A n c] 24 (0, 0))
 code : Its Y w.heap.size A lk ∨ Own1 iLay 51 Y (w.heap.size + 1) (.slice A n c) lk
 len : lk.length = n
 cap : n ≤ c
 val : Dg.validC lk = true
 row : 0 < ls.length → w.heap.size < g ∧ Y.heap[g]? = some (.cells (clL.flat ls ++ sp).toArray 55 (0, 0))
 tk : Own1 ptL 53 Y (w.heap.size + 1) v8 T
 lf : Own1 stL 49 Y (w.heap.size + 1) v9 S
 below : Below w.heap.size w Y
section
variable {g : Nat} {sp : List Value} {ls : List Dg.Cl} {A : Option Addr} {n c : Nat} {lk : List Dg.It} {v8 v9 : Value} {T : List Dg.Pt} {S : List Dg.Sp} {w Y : World}
theorem ResI.next (h : ResI g sp ls A n c lk v8 v9 T S w Y) {Z : World} (hb : Below Y.heap.size Y Z) : ResI g sp ls A n c lk v8 v9 T S w Z := by
 have hs := h.below.size
 refine ⟨iNext h.box hb, ?_, h.len, h.cap, h.val, fun h0 => ⟨(h.row h0).1, iNext (h.row h0).2 hb⟩, h.tk.below hb, h.lf.below hb, bnext h.below hb⟩
 rcases h.code with h1 | h1
 ·exact .inl (h1.below (hb.mono hs))
 ·exact .inr (h1.below hb)
theorem ResI.its (h : ResI g sp ls A n c lk v8 v9 T S w Y) : Its Y Y.heap.size A lk := by
 rcases h.code with h1 | h1
 ·exact h1.more h.below.size
 ·obtain ⟨A1, c1, e, hr, _⟩ := h1.row
  injection e with e _ _
  subst e
  exact hr.its
theorem ResI.take (h : ResI g sp ls A n c lk v8 v9 T S w Y) {Z : World} {v : Value} {T' : List Dg.Pt} (hv : Own1 ptL 53 Z (w.heap.size + 1) v T') (hg : Y.grownBy Z v8.ownBlock) : ResI g sp ls A n c lk v v9 T' S w Z := by
 have hs := lt_of_block h.box
 refine ⟨row_grown h.box h.tk (by decide) hg, ?_, h.len, h.cap, h.val, fun h0 => ⟨(h.row h0).1, row_grown (h.row h0).2 h.tk (by decide) hg⟩, hv, own_grown h.lf h.tk (by decide) hg, h.below.trans ((Below.refl w.heap.size Y).grown hg (Nat.le_of_lt hs) fun k hk => by have := (World.ownsRow.lt h.tk k hk).1; omega)⟩
 rcases h.code with h1 | h1
 ·exact .inl (h1.below ((Below.refl w.heap.size Y).grown hg (Nat.le_of_lt hs) fun k hk => by have := (World.ownsRow.lt h.tk k hk).1; omega))
 ·exact .inr (own_grown h1 h.tk (by decide) hg)
theorem ResI.leave (h : ResI g sp ls A n c lk v8 v9 T S w Y) {Z : World} {v : Value} {S' : List Dg.Sp} (hv : Own1 stL 49 Z (w.heap.size + 1) v S') (hg : Y.grownBy Z v9.ownBlock) : ResI g sp ls A n c lk v8 v T S' w Z := by
 have hs := lt_of_block h.box
 refine ⟨row_grown h.box h.lf (by decide) hg, ?_, h.len, h.cap, h.val, fun h0 => ⟨(h.row h0).1, row_grown (h.row h0).2 h.lf (by decide) hg⟩, own_grown h.tk h.lf (by decide) hg, hv, h.below.trans ((Below.refl w.heap.size Y).grown hg (Nat.le_of_lt hs) fun k hk => by have := (World.ownsRow.lt h.lf k hk).1; omega)⟩
 rcases h.code with h1 | h1
 ·exact .inl (h1.below ((Below.refl w.heap.size Y).grown hg (Nat.le_of_lt hs) fun k hk => by have := (World.ownsRow.lt h.lf k hk).1; omega))
 ·exact .inr (own_grown h1 h.lf (by decide) hg)
theorem ResI.code' (h : ResI g sp ls A n c lk v8 v9 T S w Y) {A1 : Option Addr} {n1 c1 : Nat} {lk1 : List Dg.It} (hO : Own1 iLay 51 Y (w.heap.size + 1) (.slice A1 n1 c1) lk1) (hn : lk1.length = n1) (hc : n1 ≤ c1) (hv : Dg.validC lk1 = true) : ResI g sp ls A1 n1 c1 lk1 v8 v9 T S w (Y.setRow w.heap.size #[.slice A1 n1 c1]) := by
 have hne : ∀ {v : Value} {α : Type} {L : Lay α} {e : TypeId} {l : List α}, Own1 L e Y (w.heap.size + 1) v l → v.ownBlock ≠ some w.heap.size := fun h e => by
  have := (World.ownsRow.lt h _ e).1
  omega
 exact ⟨setRow_heap Y w.heap.size _ #[.slice A1 n1 c1] _ _ h.box, .inr (own_other hO (hne hO) _), hn, hc, hv, fun h0 => ⟨(h.row h0).1, (setRow_other Y w.heap.size g #[.slice A1 n1 c1] (by have := (h.row h0).1; omega)).trans (h.row h0).2⟩, own_other h.tk (hne h.tk) _, own_other h.lf (hne h.lf) _, below_setRow h.below (Nat.le_refl _) _⟩
end
theorem stInf : (Tryz.prog.info? 49).map (fun i => (i.zero, i.size, i.bytes)) = some (some (.agg #[.int .i64 0, .int .i64 0]), stL.k, 16) := by kernel_rfl
theorem row_st (w : World) (s : Dg.Sp) (ty : TypeId) : Row1 stL (w.alloc (.cells #[.int .i64 s.seat, .int .i64 s.count] ty)) (w.heap.size + 1) (some ⟨w.heap.size, 0, none⟩) [s] := ⟨fun _ => ⟨w.heap.size, 0, rfl, by omega, fun j u hu => by
 rw [cell_of_row _ _ _ _ _ _ (heap_alloc_new w _), ← Array.getElem?_toList, Nat.zero_add]
 have e : stL.flat [s] = [.int .i64 s.seat, .int .i64 s.count] := by rfl
 rw [e] at hu
 exact hu⟩⟩
def resR (l : List Dg.It) (cs : List Dg.Cl) : (List Dg.Pt × List Dg.Sp) × Int := if (openR l cs).2 = 0 then (Dg.takenC l (Dg.openL cs), 0) else (([], []), (openR l cs).2)
attribute [-go_sem] Instr.storeAt in
theorem resR_of (l : List Dg.It) (A : Option Addr) (n c : Nat) (hl : l.length = n) (hnc : n ≤ c) (hn : n ≤ 1048576) (hw : ∀ x ∈ l, ItW x) (cs : List Dg.Cl) (AC : Option Addr) (m cm : Nat) (hm : cs.length = m) (hm2 : m ≤ 1000) (hps : ∀ x ∈ cs, PtM x.patch) (w : World) (hI : Its w w.heap.size A l) (hC : Row1 clL w w.heap.size AC cs) (hmj : MaxJ w) (Q : (List Dg.Pt × List Dg.Sp) × Int) (hQ : resR l cs = Q) :
  Calls Tryz.prog 10 #[.agg #[.slice A n c], .slice AC m cm] w fun e w' => ∃ vt vl, e = .returned (.tuple #[vt, vl, .int .i64 Q.2]) ∧ Own1 ptL 53 w' w.heap.size vt Q.1.1 ∧ Own1 stL 49 w' w.heap.size vl Q.1.2 ∧ Below w.heap.size w w' := by
 have hmx := hmxQ
 have r1 := heap_alloc_new w (.cells #[.slice A n c] 24)
 have hb1 := nwB w (.cells #[.slice A n c] 24)
 have hz : (w.alloc (.cells #[.slice A n c] 24)).heap.size = w.heap.size + 1 := by simp
 obtain ⟨q, hq⟩ : ∃ q, openR l cs = q := ⟨_, rfl⟩
 unfold resR at hQ
 rw [hq] at hQ
 have HOP := hide (openR_of l A n c hl hn hw cs AC m cm hm (by omega) (w.alloc (.cells #[.slice A n c] 24)) (hI.keep hb1) (hC.keep hb1) q hq)
 have HR1 := hide r1; have HB1 := hide hb1; have HZ := hide hz; have HI1 := hide (hI.below hb1)
 have HL := hide hl; have HW := hide hw; have HM := hide hm; have HQ := hide hQ; have HPS := hide hps; have HMJ := hide hmj; have HQQ := hide hq
 have c1 := iCells0 r1
 clear r1 hb1 hz hI hC hl hw hm hQ hq hps hmj
 go_enter func10, ntmps10
 go_wp2_with fail
 generalize w.alloc (.cells #[.slice A n c] 24) = w1 at *
 refine HOP.out.mono ?_
 rintro e w2 ⟨v2, rfl, hO2, hb2⟩
 have HB2 := hide (bnext HB1.out hb2); have HR2 := hide (iNext HR1.out hb2); have HI2 := hide (HI1.out.below (hb2.mono (by have := HZ.out; omega)))
 have HO2 := hide (show Own1 clL 55 w2 (w.heap.size + 1) v2 q.1 by have := hO2; rw [HZ.out] at this; exact this)
 clear hO2 hb2 HOP HR1 HB1 HI1 c1
 by_cases hq0 : q.2 = 0
 ·rw [hq0]
  have hval : Dg.validC l = true ∧ q.1 = Dg.openL cs := by
   have := HQQ.out
   unfold openR at this
   split at this
   ·rw [← this] at hq0; cases hq0
   ·rename_i hv
    split at this
    ·rw [← this] at hq0; cases hq0
    ·refine ⟨by cases hx : Dg.validC l with | true => rfl | false => exact absurd hx hv, by rw [← this]⟩
  obtain ⟨ls, hls⟩ : ∃ ls, Dg.openL cs = ls := ⟨_, rfl⟩
  have hqt : (Dg.takenC l ls, (0 : Int)) = Q := by rw [← HQ.out, if_pos hq0, hls]
  have hlp : ∀ x ∈ ls, PtM x.patch := by rw [← hls]; exact Dg.openL_all HPS.out
  have hlm : ls.length ≤ 1000 := by rw [← hls]; have := Dg.openL_len cs; have := HM.out; omega
  have hO := HO2.out
  rw [hval.2, hls] at hO
  have HQT := hide hqt; have HLP := hide hlp; have HV := hide hval.1
  clear hqt hlp hval hls HO2 HQ HQQ HPS
  obtain ⟨A2, c2, rfl, _, _⟩ := hO.row
  obtain ⟨k2, hk2⟩ : ∃ k2, ls.length = k2 := ⟨_, rfl⟩
  have HO := hide hO; have HK2 := hide hk2
  rw [hk2] at hlm ⊢
  clear hO hk2
  have hform : ∃ g sp, 0 < ls.length → A2 = some ⟨g, 0, none⟩ ∧ w.heap.size < g ∧ w2.heap[g]? = some (.cells (clL.flat ls ++ sp).toArray 55 (0, 0)) := by
   rcases Nat.eq_zero_or_pos ls.length with h0 | h0
   ·exact ⟨0, [], fun h => by omega⟩
   ·obtain ⟨g, cap, sp, he, hBg, _, hgr, _⟩ := HO.out.form h0
    injection he with he
    exact ⟨g, sp, fun _ => ⟨he, by omega, hgr⟩⟩
  obtain ⟨g, sp, hform⟩ := hform
  have hRI : ResI g sp ls A n c l (.slice none 0 0) (.slice none 0 0) [] [] w w2 := ⟨HR2.out, .inl HI2.out, HL.out, hnc, HV.out, fun h0 => ⟨(hform h0).2.1, (hform h0).2.2⟩, Own1.nil _ _ _ _, Own1.nil _ _ _ _, HB2.out⟩
  have HRI := hide (⟨hRI, by rw [List.drop_zero]; rfl, Nat.le_refl _, Nat.le_refl _⟩ : ResI g sp ls A n c l (.slice none 0 0) (.slice none 0 0) [] [] w w2 ∧ (([] : List Dg.Pt) ++ (Dg.takenC l (ls.drop 0)).1, ([] : List Dg.Sp) ++ (Dg.takenC l (ls.drop 0)).2) = Dg.takenC l ls ∧ ([] : List Dg.Pt).length ≤ 0 ∧ ([] : List Dg.Sp).length ≤ 0)
  have HF := hide hform
  clear hform hRI HO HR2 HI2 HB2 HL HV HW
  obtain ⟨TT, hTT⟩ : ∃ TT, Dg.takenC l ls = TT := ⟨_, rfl⟩
  rw [hTT] at HRI HQT
  clear hTT
  go_wp2_with fail
  go_loopw [8, 9, 25] (fun v8 v9 iv wr => ∃ (k : Nat) (A' : Option Addr) (n' c' : Nat) (lk : List Dg.It) (T : List Dg.Pt) (S : List Dg.Sp), k ≤ k2 ∧ iv = .int .i64 k ∧ Hid (ResI g sp ls A' n' c' lk v8 v9 T S w wr ∧ (T ++ (Dg.takenC lk (ls.drop k)).1, S ++ (Dg.takenC lk (ls.drop k)).2) = TT ∧ T.length ≤ k ∧ S.length ≤ k)) (fun _ _ iv _ => k2 - (intOf iv).toNat)
  case atStart => exact ⟨0, A, n, c, l, [], [], Nat.zero_le _, rfl, HRI⟩
  case round =>
   clear HRI
   obtain ⟨k, A', n', c', lk, T, S, hk, rfl, HK⟩ := hrel
   by_cases hlt : k < k2
   ·have hkl : k < ls.length := by rw [HK2.out]; exact hlt
    obtain ⟨x, hx⟩ : ∃ x, ls[k] = x := ⟨_, rfl⟩
    obtain ⟨hR, hT, hTl, hSl⟩ := HK.out
    have hA2 := (HF.out (by omega)).1
    subst hA2
    have hn' : n' ≤ 1048576 := by have := valid_len hR.val; have := hR.len; omega
    have hxm := HLP.out x (by rw [← hx]; exact List.getElem_mem hkl)
    rw [List.drop_eq_getElem_cons hkl, hx, Dg.takenC] at hT
    obtain ⟨lk1, E, hap⟩ : ∃ lk1 E, Dg.applyW lk x.patch = (lk1, E) := ⟨_, _, rfl⟩
    rw [hap] at hT
    have hrg := range_of (hR.row (by omega)).2 (k * 20) (clC x).toList (by rw [← hx]; exact flat_at ls sp k hkl)
    have HRG := hide hrg
    have hst := store_newcl wr x
    have hR2 := hR.next (nwB wr (.cells (clC x) 55))
    have r7 := heap_alloc_new wr (.cells (clC x) 55)
    have HR2 := hide hR2; have HR7 := hide r7; have HT := hide hT; have HAP := hide hap; have HXM := hide hxm; have HLE := hide (And.intro hTl hSl)
    clear hR hT hTl hSl hx hrg hR2 r7 hap hxm HK
    go_upto_region 9 with (with_reducible refine wpList_load_mid rfl 55 (.tmp 27) rfl g (k * 20) rfl _ _ HRG.out underlying55 rfl (by kernel_rfl) ?_)
    clear hst HRG
    obtain ⟨b7, hb7⟩ : ∃ b7, b7 = wr.heap.size := ⟨_, rfl⟩
    rw [← hb7] at HR7 ⊢
    clear hb7
    generalize wr.alloc (.cells (clC x) 55) = w3 at *
    have c1 := iCells0 HR2.out.box
    have HL7 := hide (range_of HR7.out 4 (Rq0 x.patch) rfl)
    go_wp2_with (with_reducible refine wpList_load_mid rfl 53 (.tmp 31) rfl b7 4 rfl _ _ HL7.out underlying53 rfl (by kernel_rfl) ?_)
    refine (apply_any lk A' n' c' HR2.out.len hn' HR2.out.cap (valid_itw HR2.out.val) x.patch HXM.out w3 HR2.out.its (HMJ.out.next HR2.out.below)).mono ?_
    rintro e w4 ⟨v', rfl, hO, hbq⟩
    rw [HAP.out] at hO ⊢
    obtain ⟨A1, cc1, hv', _, hcap⟩ := hO.row
    obtain ⟨n1, hn1⟩ : ∃ n1, lk1.length = n1 := ⟨_, rfl⟩
    have hv'' : v' = .slice A1 n1 cc1 := by rw [hv', ← hn1]
    subst hv''
    have hlo : w.heap.size + 1 ≤ w3.heap.size := lt_of_block HR2.out.box
    have HOI := hide (show Own1 iLay 51 w4 (w.heap.size + 1) (.slice A1 n1 cc1) lk1 from own_weak hO hlo)
    have HN1 := hide hn1; have HC1 := hide (show n1 ≤ cc1 by rw [← hn1]; exact hcap)
    have HR4 := hide (HR2.out.next hbq); have HR74 := hide (iNext HR7.out hbq)
    clear hv' hcap hn1 hO hbq hlo HR2 HR7 HL7 c1
    have hst := store_new (ty := 24) (T := 24) w4 Rq3 #[.slice A1 n1 cc1] infoCode1 rfl (by simp [Value.oneCell'])
    have hbn := nwB w4 (.cells #[.slice A1 n1 cc1] 24)
    have r9 := heap_alloc_new w4 (.cells #[.slice A1 n1 cc1] 24)
    have HR5 := hide (HR4.out.next hbn); have HR75 := hide (iNext HR74.out hbn); have HOI5 := hide (HOI.out.below hbn); have HR9 := hide r9
    clear hbn r9 HR4 HR74 HOI
    go_upto_region 10 with fail
    clear hst
    obtain ⟨b9, hb9⟩ : ∃ b9, b9 = w4.heap.size := ⟨_, rfl⟩
    rw [← hb9] at HR9 ⊢
    clear hb9
    generalize w4.alloc (.cells #[.slice A1 n1 cc1] 24) = w5 at *
    by_cases hE : E = 0
    ·subst hE
     have HV1 := hide (Dg.applyW_valid HAP.out)
     have hT2 : ((T ++ [x.patch]) ++ (Dg.takenC lk1 (ls.drop (k + 1))).1, S ++ (Dg.takenC lk1 (ls.drop (k + 1))).2) = TT := by
      have := HT.out
      rw [if_pos rfl] at this
      rw [← this, List.append_assoc]
      rfl
     have HT2 := hide hT2
     clear hT2 HT HAP
     go_upto_region 12 with fail
     refine wp_region_noPanic ?_
     refine wp_region_L (fun Z => Z.heap[b9]? = some (.cells #[.slice A1 n1 cc1] 24 (0, 0)) ∧ Z.heap[b7]? = some (.cells (clC x) 55 (0, 0))) 6 hmx ?_
     have hdr := (Below.refl w5.heap.size w5).drew
     have hR6 := HR5.out.next hdr
     have hH0 : w5.drew.heap[b9]? = some (.cells #[.slice A1 n1 cc1] 24 (0, 0)) ∧ w5.drew.heap[b7]? = some (.cells (clC x) 55 (0, 0)) := ⟨iNext HR9.out hdr, iNext HR75.out hdr⟩
     have HOI6 := hide (HOI5.out.below hdr)
     clear hdr HR5 HR9 HR75 HOI5
     generalize w5.drew = u0 at *
     refine tU 0 10 hH0 rfl ?_ (by intro wS hS; have f0 := iCells0 hS.1; go_simp; (try with_reducible rfl))
     refine tW 1 hH0 rfl ?_
     refine tW 2 hH0 rfl ?_
     refine tkV 3 10 (.agg (Rq0 x.patch)) rfl (by exact yieldsIf_load_mid (by rfl) 53 (.tmp 45) rfl b7 4 rfl (Rq0 x.patch) _ (fun Z hZ => range_of hZ.2 4 (Rq0 x.patch) rfl) underlying53 rfl (by kernel_rfl)) hH0 ?_
     simp only [Act.put, pu]
     refine oY 4 fun K hK => ?_
     go_simp
     have hbn := nwB u0 (.cells (Rq0 x.patch) 53)
     have hH1 : (u0.alloc (.cells (Rq0 x.patch) 53)).heap[b9]? = some (.cells #[.slice A1 n1 cc1] 24 (0, 0)) ∧ (u0.alloc (.cells (Rq0 x.patch) 53)).heap[b7]? = some (.cells (clC x) 55 (0, 0)) := ⟨iNext hH0.1 hbn, iNext hH0.2 hbn⟩
     have hR7 := hR6.next hbn
     have HOI7 := hide (HOI6.out.below hbn)
     refine hK.out _ _ (Or.inr hH1) ?_
     clear hK K hbn hR6
     try simp only [Act.put, pu]
     refine oY 5 fun K hK => ?_
     refine wp_app1 (L := ptL) (.tmp 44) (.tmp 47) 37 53 _ 208 rfl underlying37 patchInfo rfl (by decide) (w.heap.size + 1) (u0.heap.size + 1) _ T [x.patch] rfl hR7.tk (some ⟨u0.heap.size, 0, none⟩) 1 1 rfl rfl (row_pt u0 x.patch 53) (by have := HLE.out.1; omega) (by decide) (by have := lt_of_block hR7.box; omega) ?_
     intro v6 u2 h1 h2 h3 _
     have hH2 := And.intro (row_grown hH1.1 hR7.tk (by decide) h3) (row_grown hH1.2 hR7.tk (by decide) h3)
     have hO8 := own_grown HOI7.out hR7.tk (by decide) h3
     have hR8 := hR7.take h1 h3
     refine hK.out _ _ (Or.inr hH2) ?_
     clear hK K h1 h2 h3
     try simp only [Act.put, pu]
     refine oY 6 fun K hK => ?_
     have hst := store_part (ty := 24) u2 w.heap.size 0 #[.slice A' n' c'] (.agg #[.slice A1 n1 cc1]) #[.slice A1 n1 cc1] hR8.box infoCode1 (Nat.le_refl _) (one_code _ _ _) rfl
     go_simp
     refine hK.out _ _ (Or.inl rfl) ?_
     clear hK K hst
     try simp only [Act.put, pu]
     have HN2 := hide (⟨hR8.code' hO8 HN1.out HC1.out HV1.out, HT2.out, by rw [List.length_append]; have := HLE.out.1; have : [x.patch].length = 1 := rfl; omega, by have := HLE.out.2; omega⟩ : ResI g sp ls A1 n1 cc1 lk1 v6 u9 (T ++ [x.patch]) S w (u2.setRow w.heap.size #[.slice A1 n1 cc1]) ∧ ((T ++ [x.patch]) ++ (Dg.takenC lk1 (ls.drop (k + 1))).1, S ++ (Dg.takenC lk1 (ls.drop (k + 1))).2) = TT ∧ (T ++ [x.patch]).length ≤ k + 1 ∧ S.length ≤ k + 1)
     clear hR8 hO8 HN1 HC1 HV1 HT2 HLE hH0
     refine oY 7 fun K hK => ?_
     go_simp
     refine hK.out _ _ (Or.inl rfl) ?_
     clear hK K
     try simp only [Act.put, pu]
     refine dnY ?_
     go_wp2_with fail
     go_roundw
     case rel => exact ⟨k + 1, A1, n1, cc1, lk1, _, _, by omega, by go_num, HN2⟩
     case measure => first | (simp [intOf]; done) | (simp [intOf]; omega)
    ·have hEb : (E != 0) = true := by rw [bne, beq_eq_false_iff_ne.2 hE]; rfl
     have hT2 : (T ++ (Dg.takenC lk (ls.drop (k + 1))).1, (S ++ [x.id]) ++ (Dg.takenC lk (ls.drop (k + 1))).2) = TT := by
      have := HT.out
      rw [if_neg hE] at this
      rw [← this, List.append_assoc]
      rfl
     have HT2 := hide hT2
     have d0 : w5.cell? ⟨b7, 0, none⟩ = some (.int .i64 x.id.seat) := cell_of_row _ _ 0 _ _ _ HR75.out
     have d1 : w5.cell? ⟨b7, 1, none⟩ = some (.int .i64 x.id.count) := cell_of_row _ _ 1 _ _ _ HR75.out
     have hbn := nwB w5 (.cells #[.int .i64 x.id.seat, .int .i64 x.id.count] 49)
     have hR6 := HR5.out.next hbn
     have hlf := hR6.lf
     have hsz : w.heap.size + 1 ≤ (w5.alloc (.cells #[.int .i64 x.id.seat, .int .i64 x.id.count] 49)).heap.size := by have := lt_of_block hR6.box; omega
     have hsl := HLE.out.2
     have HR6 := hide hR6
     clear hT2 HT HAP hbn hR6 HR5 HR75 HOI5 HR9
     go_wp2_with (at_builtin; go_loud (refine step_app1 (L := stL) rfl (.tmp 38) (.tmp 41) 38 49 _ 16 rfl underlying38 stInf rfl (by decide) (w.heap.size + 1) (w5.heap.size + 1) _ S [x.id] rfl hlf (some ⟨w5.heap.size, 0, none⟩) 1 1 rfl rfl (row_st w5 x.id 49) (by omega) (by decide) hsz ?_))
     intro v6 w6 h1 h2 h3 _
     have HN2 := hide (⟨HR6.out.leave h1 h3, HT2.out, by have := HLE.out.1; omega, by rw [List.length_append]; have : [x.id].length = 1 := rfl; omega⟩ : ResI g sp ls A' n' c' lk u8 v6 T (S ++ [x.id]) w w6 ∧ (T ++ (Dg.takenC lk (ls.drop (k + 1))).1, (S ++ [x.id]) ++ (Dg.takenC lk (ls.drop (k + 1))).2) = TT ∧ T.length ≤ k + 1 ∧ (S ++ [x.id]).length ≤ k + 1)
     clear h1 h2 h3 HR6 HT2 HLE hlf hsl hsz d0 d1
     go_wp2_with fail
     go_roundw
     case rel => exact ⟨k + 1, A', n', c', lk, _, _, by omega, by go_num, HN2⟩
     case measure => first | (simp [intOf]; done) | (simp [intOf]; omega)
   ·obtain rfl : k = k2 := by omega
    obtain ⟨hR, hT, _, _⟩ := HK.out
    rw [List.drop_of_length_le (Nat.le_of_eq HK2.out)] at hT
    have hq : ((T, S), (0 : Int)) = Q := by
     rw [← HQT.out, ← hT]
     show ((T, S), (0 : Int)) = ((T ++ [], S ++ []), 0)
     rw [List.append_nil, List.append_nil]
    subst hq
    have HT := hide (own_weak hR.tk (Nat.le_succ w.heap.size)); have HS := hide (own_weak hR.lf (Nat.le_succ w.heap.size)); have HB := hide hR.below
    clear hR hT HK HQT HF
    go_wp2
    go_ret3
    exact ⟨_, _, rfl, HT.out, HS.out, HB.out⟩
 ·have hb : (q.2 != 0) = true := by rw [bne, beq_eq_false_iff_ne.2 hq0]; rfl
  have hqe : Q = (([], []), q.2) := by rw [← HQ.out, if_neg hq0]
  subst hqe
  obtain ⟨q1, q2⟩ := q
  clear HQ HQQ HO2
  go_wp2
  go_ret3
  exact ⟨_, _, rfl, Own1.nil _ _ _ _, Own1.nil _ _ _ _, HB2.out⟩
section
attribute [local go_sem] Oper.semAt_some
def prsL : List Dg.Cl → List (Dg.Cl × Dg.Cl)
 | [] => []
 | a :: r => r.map (fun b => (a, b)) ++ prsL r
abbrev PrP : Type := { p : Dg.Cl × Dg.Cl // PtM p.1.patch ∧ PtM p.2.patch }
def prV (l : List PrP) : List (Dg.Cl × Dg.Cl) := l.map fun p => p.1
theorem prV_snoc (l : List PrP) (x : PrP) : prV (l ++ [x]) = prV l ++ [x.1] := List.map_append
theorem prV_len (l : List PrP) : (prV l).length = l.length := List.length_map _
def prsE (x : Dg.Cl × Dg.Cl) : Array Value := #[.agg (clC x.1), .agg (clC x.2)]
def FrP (X Y : World) : Prop := ∀ (k : Nat) (o : Obj), X.heap[k]? = some o → o.isCells = true → (∀ cs fr, o ≠ .cells cs 41 fr) → (∀ cs fr, o ≠ .cells cs 91 fr) → Y.heap[k]? = some o
theorem FrP.trans {X Y Z : World} (h : FrP X Y) (k : FrP Y Z) : FrP X Z := fun i o ho hc h1 h2 => k i o (h i o ho hc h1 h2) hc h1 h2
theorem FrP.put {W : World} {l : Nat} {o : Obj} (o' : Obj) (hl : W.heap[l]? = some o) (hc : o.isCells = false) : FrP W (W.putObj l o') := fun k q hk hq _ _ => ((grownBy_putObj' W l o').block k (lt_of_block hk) (fun e => by
 injection e with e
 subst e
 rw [hl] at hk
 injection hk with hk
 rw [hk, hq] at hc
 cases hc)).trans hk
theorem FrP.below {X Y : World} (hb : Below X.heap.size X Y) : FrP X Y := fun k _ ho _ _ _ => (hb.block k (lt_of_block ho)).trans ho
theorem FrP.row {X Y : World} (h : FrP X Y) {k : Nat} {cs : Array Value} {t : TypeId} {fr : Nat × Nat} (hk : X.heap[k]? = some (.cells cs t fr)) (h1 : t ≠ 41) (h2 : t ≠ 91) : Y.heap[k]? = some (.cells cs t fr) :=
 h k _ hk rfl (fun _ _ e => by injection e with _ e _; exact h1 e) (fun _ _ e => by injection e with _ e _; exact h2 e)
structure PrS (ls : List Dg.Cl) (A : Option Addr) (m c b1 : Nat) (X : World) : Prop where
 r1 : X.heap[b1]? = some (.cells #[.slice A m c] 30 (0, 0))
 row : ls ≠ [] → ∃ g sp, A = some ⟨g, 0, none⟩ ∧ X.heap[g]? = some (.cells (clL.flat ls ++ sp).toArray 55 (0, 0))
 len : ls.length = m
 cap : m ≤ c
 few : m ≤ 1000
theorem PrS.keep {ls : List Dg.Cl} {A : Option Addr} {m c b1 : Nat} {X Y : World} (h : PrS ls A m c b1 X) (hF : FrP X Y) : PrS ls A m c b1 Y :=
 ⟨hF.row h.r1 (by decide) (by decide), fun h0 => by
  obtain ⟨g, sp, e, hr⟩ := h.row h0
  exact ⟨g, sp, e, hF.row hr (by decide) (by decide)⟩, h.len, h.cap, h.few⟩
theorem PrS.below {ls : List Dg.Cl} {A : Option Addr} {m c b1 : Nat} {X Y : World} (h : PrS ls A m c b1 X) (hb : Below X.heap.size X Y) : PrS ls A m c b1 Y := h.keep (FrP.below hb)
theorem PrS.ld {ls : List Dg.Cl} {m c b1 g : Nat} {X : World} (h : PrS ls (some ⟨g, 0, none⟩) m c b1 X) (i : Nat) (hi : i < m) (x : Dg.Cl) (hx : ls[i]? = some x) : (Instr.loadAt 55 (.pointer (some ⟨g, i * 20, none⟩))).run Tryz.prog X = .ok (.agg (clC x)) X := by
 have hil : i < ls.length := by rw [h.len]; exact hi
 obtain ⟨g', sp, e, hr⟩ := h.row (fun e => by rw [e] at hil; exact absurd hil (Nat.not_lt_zero _))
 injection e with e
 injection e with e
 subst e
 have e2 : ls[i] = x := by
  rw [List.getElem?_eq_getElem hil] at hx
  injection hx
 exact run_loadAt_mid X g (i * 20) 55 (clC x).toList _ (range_of hr (i * 20) _ (by rw [← e2]; exact flat_at ls sp i hil)) underlying55 rfl (by kernel_rfl)
theorem pairs_of (A : Option Addr) (m c : Nat) (w : World) : Calls Tryz.prog 36 #[.slice A m c] w fun e w' => e = .returned (.func (.func 70) #[] #[.pointer (some ⟨w.heap.size, 0, none⟩)]) ∧ w' = w.alloc (.cells #[.slice A m c] 30) := by
 have hmf : ∀ (fn : Fn) (first cap : Array Value) (w : World), (Instr.makeFunc fn first cap).run Tryz.prog w = .ok (.func fn first cap) w := fun _ _ _ _ => rfl
 go_enter func36, ntmps36
 go_wp2
 go_ret
 exact ⟨rfl, rfl⟩
theorem ld_slice {X : World} {b : Nat} {A : Option Addr} {m c : Nat} (h : X.heap[b]? = some (.cells #[.slice A m c] 30 (0, 0))) : (Instr.loadAt 30 (.pointer (some ⟨b, 0, none⟩))).run Tryz.prog X = .ok (.slice A m c) X := by
 have c0 := iCells0 h
 simp [Instr.loadAt, Instr.sureAddr, loadVar, isAgg, run_underlying underlying30, c0]
attribute [-go_sem] Instr.storeAt Instr.loadAt in
theorem pairs1_in (n : Nat) (hn : 2 ≤ n) (l : Nat) (ls : List Dg.Cl) (A : Option Addr) (m c b1 : Nat) (hls : ∀ c ∈ ls, PtM c.patch) (J Jx : List PrP → World → Prop)
  (hY : ∀ pre x W, J pre W → pre.length < (prsL ls).length → YieldAt Fence.wide (n - 1) Tryz.prog l (prsE x.1) W fun e W' =>
   (e = .returned (.bool true) ∧ J (pre ++ [x]) W' ∧ FrP W W') ∨ (e = .returned (.bool false) ∧ Jx (pre ++ [x]) W'))
  (W : World) (hJ : AbidesFrom W.heap.size J) (hO : PrS ls A m c b1 W) (h0 : J [] W) :
  CallsIn Fence.wide n Tryz.prog 70 #[.func (.yield l) #[] #[], .pointer (some ⟨b1, 0, none⟩)] W fun e W' => (∃ v, e = .returned v) ∧
   ((∃ ss : List PrP, prV ss = prsL ls ∧ J ss W') ∨ (∃ pre : List PrP, True ∧ Jx pre W')) := by
 have c1 := ld_slice hO.r1
 have HO := hide hO; have H0 := hide h0; have HY := hide hY; have HJ := hide hJ
 clear hO h0 hY hJ
 refine callsIn_of_wp func70 rfl trivial ?_ rfl
 simp only [ntmps70, List.size_toArray, List.length_cons, List.length_nil, Nat.reduceAdd, Nat.reduceSub, Array.replicate_succ, Array.replicate_zero, List.push_toArray, List.append_toArray, List.nil_append, List.cons_append]
 refine wpIn_wide.2 ?_
 refine wp_scope_straight ?_
 refine (wpIn_wide (n := n)).1 ?_
 gi_wp2_with fail
 refine wpIn_label ?_
 gi_wp2_with fail
 clear c1
 gi_loopw [9] (fun iv wr => ∃ (i : Nat) (ss : List PrP), i ≤ m ∧ iv = .int .i64 i ∧ Hid (PrS ls A m c b1 wr ∧ prV ss ++ prsL (ls.drop i) = prsL ls ∧ J ss wr)) (fun iv _ => m - (intOf iv).toNat)
 case atStart => exact ⟨0, [], Nat.zero_le _, rfl, hide ⟨HO.out, rfl, H0.out⟩⟩
 case round =>
  obtain ⟨i, ss, hi, rfl, HI⟩ := hrel
  by_cases hlt : i < m
  ·obtain ⟨hOw, hss, hJw⟩ := HI.out
   have hil : i < ls.length := by rw [hOw.len]; exact hlt
   obtain ⟨g, sp, rfl, hgr⟩ := hOw.row (fun e => by rw [e] at hil; exact absurd hil (Nat.not_lt_zero _))
   obtain ⟨a, ha⟩ : ∃ a, ls[i] = a := ⟨_, rfl⟩
   have ha9 := ha
   have ld0 := hOw.ld i hlt a (by rw [List.getElem?_eq_getElem hil, ha])
   have hmc := hOw.cap
   have hm1000 := hOw.few
   have hst := store_newcl wr a
   have hbn := nwB wr (.cells (clC a) 55)
   have r4 := heap_alloc_new wr (.cells (clC a) 55)
   have hO1 := hOw.below hbn
   have c1 := ld_slice hO1.r1
   have hJ1 := HJ.out ss wr (wr.alloc (.cells (clC a) 55)) none hJw (World.grownBy_alloc wr _ none) (fun r e => by cases e)
   have hss1 : prV ss ++ ((ls.drop (i + 1)).map (fun b => (a, b)) ++ prsL (ls.drop (i + 1))) = prsL ls := by
    rw [← hss, List.drop_eq_getElem_cons hil, ha]
    rfl
   have HI1 := hide (⟨hO1, r4, by rw [Nat.add_zero]; exact hss1, hJ1⟩ : PrS ls (some ⟨g, 0, none⟩) m c b1 (wr.alloc (.cells (clC a) 55)) ∧ (wr.alloc (.cells (clC a) 55)).heap[wr.heap.size]? = some (.cells (clC a) 55 (0, 0)) ∧ prV ss ++ ((ls.drop (i + 1 + 0)).map (fun b => (a, b)) ++ prsL (ls.drop (i + 1))) = prsL ls ∧ J ss (wr.alloc (.cells (clC a) 55)))
   have HLN := hide hOw.len
   have hi1 : i + 1 ≤ m := hlt
   have hic : i + 1 ≤ c := Nat.le_trans hi1 hmc
   clear hOw hss hJw hgr hbn r4 hO1 hJ1 hss1 HI ha
   by_cases hcc : c = i + 1
   ·have hm1 : m - (i + 1) = 0 := by omega
    have hnil : ls.drop (i + 1) = [] := List.drop_of_length_le (by rw [HLN.out]; omega)
    have HN := hide (⟨HI1.out.1, by
     have := HI1.out.2.2.1
     rw [Nat.add_zero, hnil, List.map_nil, List.nil_append] at this
     rw [hnil]
     exact this, HI1.out.2.2.2⟩ : PrS ls (some ⟨g, 0, none⟩) m c b1 (wr.alloc (.cells (clC a) 55)) ∧ prV ss ++ prsL (ls.drop (i + 1)) = prsL ls ∧ J ss (wr.alloc (.cells (clC a) 55)))
    clear hnil HI1
    gi_wp2_with fail
    clear hst ld0 c1
    generalize wr.alloc (.cells (clC a) 55) = w1 at *
    gi_loopw [19] (fun jv wq => jv = .int .i64 0 ∧ wq = w1) (fun _ _ => 0)
    case atStart => exact ⟨rfl, rfl⟩
    case round =>
     obtain ⟨rfl, rfl⟩ := hrel
     gi_wp2
     go_roundw
     case rel => exact ⟨i + 1, _, by omega, by go_num, HN⟩
     case measure => first | (simp [intOf]; done) | (simp [intOf]; omega)
   have hcc2 : i + 1 < c := by omega
   clear hcc
   gi_wp2_with fail
   clear hst ld0 c1
   obtain ⟨b4, hb4⟩ : ∃ b4, b4 = wr.heap.size := ⟨_, rfl⟩
   rw [← hb4] at HI1 ⊢
   clear hb4
   generalize wr.alloc (.cells (clC a) 55) = w1 at *
   gi_loopw [19] (fun jv wq => ∃ (j : Nat) (ss : List PrP), j ≤ m - (i + 1) ∧ jv = .int .i64 j ∧ Hid (PrS ls (some ⟨g, 0, none⟩) m c b1 wq ∧ wq.heap[b4]? = some (.cells (clC a) 55 (0, 0)) ∧ prV ss ++ ((ls.drop (i + 1 + j)).map (fun b => (a, b)) ++ prsL (ls.drop (i + 1))) = prsL ls ∧ J ss wq)) (fun jv _ => (m - (i + 1)) - (intOf jv).toNat)
   case atStart => exact ⟨0, ss, Nat.zero_le _, rfl, HI1⟩
   case round =>
    clear HI1
    obtain ⟨j, sj, hj, rfl, HI⟩ := hrel
    by_cases hlj : j < m - (i + 1)
    ·obtain ⟨hOw, hb4, hss, hJw⟩ := HI.out
     have hjl : i + 1 + j < ls.length := by rw [hOw.len]; omega
     obtain ⟨b, hb⟩ : ∃ b, ls[i + 1 + j] = b := ⟨_, rfl⟩
     have ld0 := hOw.ld (i + 1 + j) (by omega) b (by rw [List.getElem?_eq_getElem hjl, hb])
     rw [Nat.add_mul (i + 1) j 20] at ld0
     have hst := store_newcl wr b
     have hbn := nwB wr (.cells (clC b) 55)
     have r6 := heap_alloc_new wr (.cells (clC b) 55)
     have hO1 := hOw.below hbn
     have hb41 := iNext hb4 hbn
     have l4 := load_cl hb41
     have l6 := load_cl r6
     have hJ1 := HJ.out sj wr (wr.alloc (.cells (clC b) 55)) none hJw (World.grownBy_alloc wr _ none) (fun r e => by cases e)
     obtain ⟨pab, hpab⟩ : ∃ pab : PrP, pab.1 = (a, b) := ⟨⟨(a, b), by rw [← ha9]; exact hls _ (List.getElem_mem hil), by rw [← hb]; exact hls _ (List.getElem_mem hjl)⟩, rfl⟩
     have hss1 : prV (sj ++ [pab]) ++ ((ls.drop (i + 1 + (j + 1))).map (fun b => (a, b)) ++ prsL (ls.drop (i + 1))) = prsL ls := by
      rw [← hss, prV_snoc, hpab, List.drop_eq_getElem_cons hjl, hb, List.append_assoc]
      rfl
     have hlt9 : sj.length < (prsL ls).length := by
      rw [← hss1, List.length_append, prV_len, List.length_append]
      have : [pab].length = 1 := rfl
      omega
     obtain ⟨fn, tmps, assign, body, hy, hR⟩ := HY.out sj pab (wr.alloc (.cells (clC b) 55)) hJ1 hlt9
     simp only [hpab, prsE] at hy
     have HO1 := hide hO1; have HB41 := hide hb41; have HSS := hide hss1; have HR := hide hR
     have j0 : (0 : Int) ≤ (j : Int) := by omega
     have j1 : (j : Int) < ((m - (i + 1) : Nat) : Int) := by omega
     clear hOw hb4 hss hJw hb hbn r6 hO1 hb41 hJ1 hss1 hlt9 HI hR
     clear ha9
     gi_wp2_with fail
     refine ⟨fun _ => by omega, ?_⟩
     refine HR.out.mono ?_
     rintro e W3 (⟨rfl, hJ3, hk3⟩ | ⟨rfl, hJx3⟩)
     ·have HN := hide (⟨HO1.out.keep hk3, hk3.row HB41.out (by decide) (by decide), HSS.out, hJ3⟩ : PrS ls (some ⟨g, 0, none⟩) m c b1 W3 ∧ W3.heap[b4]? = some (.cells (clC a) 55 (0, 0)) ∧ prV (sj ++ [pab]) ++ ((ls.drop (i + 1 + (j + 1))).map (fun b => (a, b)) ++ prsL (ls.drop (i + 1))) = prsL ls ∧ J (sj ++ [pab]) W3)
      clear hJ3 hk3 HO1 HB41 HSS HR hy hst ld0 l4 l6
      gi_wp2
      go_roundw
      case rel => exact ⟨j + 1, _, by omega, by go_num, HN⟩
      case measure => first | (simp [intOf]; done) | (simp [intOf]; omega)
     ·have HN := hide hJx3
      clear hJx3 HO1 HB41 HSS HR hy hst ld0 l4 l6
      gi_wp2
      simp only [Exit.noGoto]
      go_end0
      exact ⟨⟨_, rfl⟩, .inr ⟨_, trivial, HN.out⟩⟩
    ·obtain rfl : j = m - (i + 1) := by omega
     obtain ⟨hOw, hb4, hss, hJw⟩ := HI.out
     rw [List.drop_of_length_le (by rw [hOw.len]; omega), List.map_nil, List.nil_append] at hss
     have HN := hide (⟨hOw, hss, hJw⟩ : PrS ls (some ⟨g, 0, none⟩) m c b1 wr ∧ prV sj ++ prsL (ls.drop (i + 1)) = prsL ls ∧ J sj wr)
     clear hOw hb4 hss hJw HI
     gi_wp2
     go_roundw
     case rel => exact ⟨i + 1, _, by omega, by go_num, HN⟩
     case measure => first | (simp [intOf]; done) | (simp [intOf]; omega)
  ·obtain rfl : i = m := by omega
   obtain ⟨hOw, hss, hJw⟩ := HI.out
   rw [List.drop_of_length_le (Nat.le_of_eq hOw.len)] at hss
   have hss2 : prV ss = prsL ls := by rw [← hss]; exact (List.append_nil _).symm
   have HN := hide (And.intro hss2 hJw)
   clear hOw hss hss2 hJw HI
   gi_wp2
   simp only [Exit.noGoto]
   go_end0
   exact ⟨⟨_, rfl⟩, .inl ⟨_, HN.out.1, HN.out.2⟩⟩
end
theorem own_max {α : Type} {L : Lay α} {e : TypeId} {w : World} {B : Nat} {v : Value} {l : List α} (h : Own1 L e w B v l) : l.length ≤ 9223372036854775807 := by
 rcases Nat.eq_zero_or_pos l.length with h0 | h0
 ·omega
 ·obtain ⟨_, _, _, _, _, _, _, h1, h2, _⟩ := h.form h0
  unfold maxLen at h2
  omega
theorem yn_it {ops : Array Oper} {S : World → Prop} {op : Oper} {a : Act} {x y : Dg.It} (p q : Operand) (ho : op.op = .binOp .neq 51 p q 51) (hw : Region.wanted op (yielded ops a.tmps) = true) (hx : a.eval p = .agg (Rq4 x)) (hz : a.eval q = .agg (Rq4 y)) : YieldsIf Tryz.prog ops S op (.bool (!sameI x y)) a :=
 .inl ⟨hw, fun w _ => by
  unfold execOp
  simp only [ho, hx, hz, Sem.run_bind, Sem.run_pure, Result.andThen_ok, item_run, run_eqGuard_agg (w := w) .neq 51 p q _ _ (show Tryz.prog.eqGuardType Tryz.prog.depth 51 = false by kernel_rfl)]⟩
theorem eqI_of (v v' : Value) (L L' : List Dg.It) (B B' : Nat) (X : World) (h : Own1 iLay 51 X B v L) (h' : Own1 iLay 51 X B' v' L') (R : Bool) (hR : decide (L = L') = R) :
  Calls Tryz.prog 37 #[v, v'] X fun e Y => e = .returned (.bool R) ∧ Below X.heap.size X Y := by
 have hmx := hmxQ
 have hl := own_max h
 have hl2 := own_max h'
 obtain ⟨A, c, rfl, _, _⟩ := h.row
 obtain ⟨A', c', rfl, _, _⟩ := h'.row
 obtain ⟨n, hn⟩ : ∃ n, L.length = n := ⟨_, rfl⟩
 obtain ⟨n', hn'⟩ : ∃ n', L'.length = n' := ⟨_, rfl⟩
 rw [hn] at h hl ⊢
 rw [hn'] at h' hl2 ⊢
 have H1 := hide h; have H2 := hide h'; have HN := hide hn; have HN' := hide hn'; have HR := hide hR
 clear h h' hn hn' hR
 by_cases hnn : n = n'
 ·subst hnn
  have hbn : ((n : Int) != (n : Int)) = false := by simp
  go_enter func37, ntmps37
  go_wp2
  go_loopw [13] (fun iv wr => ∃ k : Nat, k ≤ n ∧ iv = .int .i64 k ∧ Hid (Below X.heap.size X wr ∧ L.take k = L'.take k)) (fun iv _ => n - (intOf iv).toNat)
  case atStart => exact ⟨0, Nat.zero_le _, rfl, hide ⟨Below.refl _ _, rfl⟩⟩
  case round =>
   obtain ⟨k, hk, rfl, HK⟩ := hrel
   by_cases hlt : k < n
   ·have hkl : k < L.length := by rw [HN.out]; exact hlt
    have hkl' : k < L'.length := by rw [HN'.out]; exact hlt
    obtain ⟨g, rfl, hg1, hr1⟩ := own_rangeL (H1.out.below HK.out.1) hkl
    obtain ⟨g', rfl, hg2, hr2⟩ := own_rangeL (H2.out.below HK.out.1) hkl'
    obtain ⟨x, hx⟩ : ∃ x, L[k] = x := ⟨_, rfl⟩
    obtain ⟨y, hy⟩ : ∃ y, L'[k] = y := ⟨_, rfl⟩
    rw [hx] at hr1
    rw [hy] at hr2
    have HR1 : Hid (wr.rangeAt g (k * 7) (Rq4 x)) := hide hr1
    have HR2 : Hid (wr.rangeAt g' (k * 7) (Rq4 y)) := hide hr2
    have htx : L.take (k + 1) = L.take k ++ [x] := by rw [List.take_succ_eq_append_getElem hkl, hx]
    have hty : L'.take (k + 1) = L'.take k ++ [y] := by rw [List.take_succ_eq_append_getElem hkl', hy]
    have HT := hide (And.intro htx hty); have HX := hide hx; have HY := hide hy
    clear hr1 hr2 hx hy htx hty
    have i0 : (0 : Int) ≤ (k : Int) := by omega
    have i1 : (k : Int) < (n : Int) := by omega
    go_upto_region 6 with fail
    refine wp_region_noPanic ?_
    refine wp_region_L (Below wr.drew.heap.size wr.drew) 9 hmx ?_
    have hdr := (Below.refl wr.heap.size wr).drew
    have hq1 := range_below HR1.out hg1 hdr
    have hq2 := range_below HR2.out hg2 hdr
    have H1K := hide (fun Z (hZ : Below wr.drew.heap.size wr.drew Z) => range_below hq1 (Nat.lt_of_lt_of_le hg1 hdr.size) hZ)
    have H2K := hide (fun Z (hZ : Below wr.drew.heap.size wr.drew Z) => range_below hq2 (Nat.lt_of_lt_of_le hg2 hdr.size) hZ)
    have hH0 := Below.refl wr.drew.heap.size wr.drew
    have HBU := hide HK.out.1.drew
    have HTK := hide HK.out.2
    clear hdr hq1 hq2 HR1 HR2 HK
    generalize wr.drew = u0 at *
    refine tU 0 11 hH0 rfl ?_
    refine tU 1 11 hH0 rfl ?_
    refine tU 2 11 hH0 rfl ?_
    refine tkV 3 11 (.agg (Rq4 x)) rfl (by exact yieldsIf_load_mid (by rfl) 51 (.tmp 18) rfl g (k * 7) rfl (Rq4 x) _ (fun X hX => H1K.out X hX) underlying51 rfl (by kernel_rfl)) hH0 ?_
    simp only [Act.put, pu]
    refine tU 4 11 hH0 rfl ?_
    refine tU 5 11 hH0 rfl ?_
    refine tU 6 11 hH0 rfl ?_
    refine tkV 7 11 (.agg (Rq4 y)) rfl (by exact yieldsIf_load_mid (by rfl) 51 (.tmp 22) rfl g' (k * 7) rfl (Rq4 y) _ (fun X hX => H2K.out X hX) underlying51 rfl (by kernel_rfl)) hH0 ?_
    simp only [Act.put, pu]
    refine tkV 8 11 (.bool (!sameI x y)) rfl (by exact yn_it (.tmp 19) (.tmp 23) rfl (by rfl) (by rfl) (by rfl)) hH0 ?_
    simp only [Act.put, pu]
    refine dnY ?_
    obtain ⟨bq, hbq⟩ : ∃ bq, sameI x y = bq := ⟨_, rfl⟩
    rw [hbq]
    cases bq with
    | true =>
     have hxy := (sameI_iff x y).1 hbq
     have HN9 := hide (⟨HBU.out, by rw [HT.out.1, HT.out.2, HTK.out, hxy]⟩ : Below X.heap.size X u0 ∧ L.take (k + 1) = L'.take (k + 1))
     clear hbq hxy
     go_wp2_with fail
     go_roundw
     case rel => exact ⟨k + 1, by omega, by go_num, HN9⟩
     case measure => first | (simp [intOf]; done) | (simp [intOf]; omega)
    | false =>
     have hne : ¬ L = L' := fun e => by
      subst e
      have : x = y := by rw [← HX.out, ← HY.out]
      rw [(sameI_iff x y).2 this] at hbq
      cases hbq
     have hr : R = false := by rw [← HR.out]; exact decide_eq_false hne
     subst hr
     clear hbq hne HR
     go_wp2
     go_ret
     exact ⟨rfl, HBU.out⟩
   ·obtain rfl : k = n := by omega
    have hr : R = true := by
     rw [← HR.out]
     refine decide_eq_true ?_
     have := HK.out.2
     rwa [List.take_of_length_le (Nat.le_of_eq HN.out), List.take_of_length_le (Nat.le_of_eq HN'.out)] at this
    subst hr
    clear HR
    go_wp2
    go_ret
    exact ⟨rfl, HK.out.1⟩
 ·have hbn : ((n : Int) != (n' : Int)) = true := by
   have : ¬ ((n : Int) = (n' : Int)) := by omega
   rw [bne, beq_eq_false_iff_ne.2 this]
   rfl
  have hr : R = false := by
   rw [← HR.out]
   refine decide_eq_false fun e => hnn ?_
   rw [← HN.out, ← HN'.out, e]
  subst hr
  clear HR
  go_enter func37, ntmps37
  go_wp2
  go_ret
  exact ⟨rfl, Below.refl _ _⟩
attribute [-go_sem] Instr.storeAt in
theorem poss_of (cb : Nat) (l : List Dg.It) (A : Option Addr) (n c : Nat) (hl : l.length = n) (hnc : n ≤ c) (hn : n ≤ 1048576) (hw : ∀ x ∈ l, ItW x) (ps : List Dg.Pt) (AP : Option Addr) (m cm : Nat) (hm : ps.length = m) (hm2 : m ≤ 1048576) (hps : ∀ p ∈ ps, PtM p) (w : World) (hbx : w.heap[cb]? = some (.cells #[.slice A n c] 24 (0, 0))) (hI : Its w w.heap.size A l) (hP : Row1 ptL w w.heap.size AP ps) (hmj : MaxJ w) :
  Calls Tryz.prog 35 #[.slice AP m cm, .pointer (some ⟨cb, 0, none⟩)] w fun e w' => e = .returned (.bool (decide ((Dg.allW l ps).2 = 0))) ∧ Below w.heap.size w w' := by
 have c1 := iCells0 hbx
 have HA := hide (all_any l A n c hl hnc hn hw ps AP m cm hm hm2 hps w hI hP hmj)
 obtain ⟨E, hE⟩ : ∃ E, (Dg.allW l ps).2 = E := ⟨_, rfl⟩
 rw [hE] at HA ⊢
 clear hbx hl hnc hn hw hm hm2 hps hI hP hmj
 go_enter func35, ntmps35
 go_wp2_with fail
 refine HA.out.mono ?_
 rintro e w1 ⟨v', j, rfl, hO, hb⟩
 have hst := store_new (ty := 24) (T := 24) w1 Rq3 #[v'] infoCode1 rfl (by obtain ⟨_, _, e, _⟩ := hO.row; subst e; simp [Value.oneCell'])
 have hbn := nwB w1 (.cells #[v'] 24)
 have HB := hide (bnext hb hbn)
 have hEb : (E == 0) = decide (E = 0) := by by_cases h : E = 0 <;> simp [h]
 clear hb hbn HA
 go_wp2
 go_ret
 exact ⟨by rw [← hEb]; rfl, HB.out⟩
theorem step_app1In {l n : Nat} {α : Type} {L : Lay α} {w : World} {ops : Array Oper} {rest : List Oper} {o : Oper} {a : Act} {Q : Exit → Act → World → Prop} (hgd : o.guard = none) (sl x : Operand) (t e : TypeId) (z : Value) (bytes : Nat)
  (ho : o.op = .call { callee := .builtin .append, args := #[sl, x], argTypes := #[t, t] }) (hu : Tryz.prog.underlying t = some (.slice e))
  (hi : (Tryz.prog.info? e).map (fun i => (i.zero, i.size, i.bytes)) = some (some z, L.k, bytes)) (hz : z.cells.size = L.k) (hk : 0 < L.k)
  (B B' : Nat) (v : Value) (q q' : List α) (hs : a.eval sl = v) (hO : Own1 L e w B v q) (A : Option Addr) (m cap : Nat) (hx : a.eval x = .slice A m cap) (hn : q'.length = m) (hr : Row1 L w B' A q')
  (hlen : q.length + m ≤ 4294967296) (hby : bytes ≤ 32768) (hB : B ≤ w.heap.size)
  (h : ∀ v' w', Own1 L e w' B v' (q ++ q') → Below B w w' → w.grownBy w' v.ownBlock → wpListIn (Fence.wide.inRound l) n Tryz.prog ops Q rest (a.put o.dst v') w') : wpListIn (Fence.wide.inRound l) n Tryz.prog ops Q (o :: rest) a w :=
 wpListIn_plain hgd fun _ hK => oper_round (fun c hc => by rw [ho] at hc; cases hc) (wp_app1 sl x t e z bytes ho hu hi hz hk B B' v q q' hs hO A m cap hx hn hr hlen hby hB fun v' w' h1 h2 h3 _ => hK _ _ (h v' w' h1 h2 h3))
theorem rangeFunc_box2 {α : Type} {F : Fence} {n : Nat} {P : Program} {g : Operand} {ps : Array Tmp} {assign body : Code} {Q : Exit → Act → World → Prop} {a : Act} {w : World}
  (hro : F.round = none) (h1 : 1 ≤ n) {gf : Nat} {lb : Array Value} (hg : a.eval g = .func (.func gf) #[] lb) (hFg : F.fn gf) (eg : ∀ args w, (callFunc gf args).run P w = .ok (.enter gf args) w)
  {encs : α → Array Value} {Kp : World → World → Prop} {S Sp : List α → Prop} {N : Nat} {w0 : World} (hseq : SeqStopsK F (n - 1) P gf lb encs Kp S Sp N w0)
  (hKt : ∀ {A B C : World}, Kp A B → Kp B C → Kp A C) (hKb : ∀ (W : World) (l : Nat) (o o' : Obj), w.heap.size ≤ l → W.heap[l]? = some o → o.isCells = false → o.isWalk = false → Kp W (W.putObj l o')) (hb0 : Below w0.heap.size w0 w) (hps : ∀ x, (encs x).size = ps.size)
  (I : List α → World → Prop) (hI : OwnFrom w.heap.size I) (h0 : I [] w) (s t : Tmp) (R : α → Nat → Nat → World → Prop) (hR : ∀ x p q, OwnFrom w.heap.size (fun (_ : Unit) W => R x p q W))
  (hassign : ∀ (l : Nat) (pre : List α) (x : α) (W : World) (K : Act → World → Prop), I pre W → (∀ p q W', KeepsFrom w.heap.size W W' → Kp W W' → I pre W' → R x p q W' → K { tmps := (((ps.zip (encs x)).foldl (fun t (p, v) => t.setIfInBounds p v) a.tmps).setIfInBounds s (.pointer (some ⟨p, 0, none⟩))).setIfInBounds t (.pointer (some ⟨q, 0, none⟩)), defers := [] } W') →
   assign.wpIn (F.inRound l) (n - 1 - 1) P (Exit.then K (fun _ _ _ => False)) { tmps := (ps.zip (encs x)).foldl (fun t (p, v) => t.setIfInBounds p v) a.tmps, defers := [] } W)
  (hbody : ∀ (l : Nat) (pre : List α) (x : α) (p q : Nat) (W : World), I pre W → R x p q W → pre.length < N → body.wpIn (F.inRound l) (n - 1 - 1) P (ownPostG w.heap.size Kp I (fun _ _ _ => False) (pre ++ [x]) W) { tmps := (((ps.zip (encs x)).foldl (fun t (p, v) => t.setIfInBounds p v) a.tmps).setIfInBounds s (.pointer (some ⟨p, 0, none⟩))).setIfInBounds t (.pointer (some ⟨q, 0, none⟩)), defers := [] } W)
  (hdone : ∀ (D : Nat) (xs : List α) (W : World), w.heap.size ≤ D → S xs → I xs W → W.heap[D]? = some (.deferred (some [])) → Q .normal { a with defers := { target := .collected D, args := #[] } :: a.defers } W) :
  (Code.rangeFunc g ps assign body).wpIn F n P Q a w :=
 wpIn_rangeFunc_ownH hro h1 hg hFg eg hseq hKt hKb hb0 hps I (fun _ _ _ => False) hI (fun _ _ _ _ _ hs _ _ => hs) h0
  (fun x a' W => ∃ p q, a' = { tmps := (((ps.zip (encs x)).foldl (fun t (p, v) => t.setIfInBounds p v) a.tmps).setIfInBounds s (.pointer (some ⟨p, 0, none⟩))).setIfInBounds t (.pointer (some ⟨q, 0, none⟩)), defers := [] } ∧ R x p q W)
  (fun x a' _ W W' row ⟨p, q, e, hs⟩ hg hr => ⟨p, q, e, hR x p q () W W' row hs hg hr⟩)
  (fun l pre x W K hi hK => hassign l pre x W K hi fun p q W' k1 k2 k3 k4 => hK _ _ k1 k2 k3 ⟨p, q, rfl, k4⟩)
  (fun l pre x a' W _ _ hi ⟨p, q, e, hs⟩ hN => by subst e; exact hbody l pre x p q W hi hs hN)
  hdone (fun _ _ _ _ _ _ h _ => h.elim)
def outL (l : List Dg.It) (ps : List (Dg.Cl × Dg.Cl)) : List (Dg.Sp × Dg.Sp) := (ps.filter fun p => Dg.clashB l p.1.patch p.2.patch).map fun p => (p.1.id, p.2.id)
theorem outL_snoc (l : List Dg.It) (ps : List (Dg.Cl × Dg.Cl)) (p : Dg.Cl × Dg.Cl) : outL l (ps ++ [p]) = if Dg.clashB l p.1.patch p.2.patch = true then outL l ps ++ [(p.1.id, p.2.id)] else outL l ps := by
 unfold outL
 rw [List.filter_append, List.map_append]
 cases h : Dg.clashB l p.1.patch p.2.patch with
 | true => rw [if_pos rfl, List.filter_cons_of_pos (p := fun p : Dg.Cl × Dg.Cl => Dg.clashB l p.1.patch p.2.patch) h]; rfl
 | false => rw [if_neg (by decide), List.filter_cons_of_neg (p := fun p : Dg.Cl × Dg.Cl => Dg.clashB l p.1.patch p.2.patch) (by rw [h]; decide)]; exact List.append_nil _
theorem outL_len (l : List Dg.It) (ps : List (Dg.Cl × Dg.Cl)) : (outL l ps).length ≤ ps.length := by
 unfold outL
 rw [List.length_map]
 exact List.length_filter_le _ _
theorem outL_all (l : List Dg.It) : ∀ ls : List Dg.Cl, outL l (prsL ls) = Dg.clashC l ls
 | [] => rfl
 | a :: r => by
  have ih := outL_all l r
  unfold outL at ih ⊢
  rw [prsL, List.filter_append, List.map_append, ih]
  show _ = Dg.clashR l a r ++ Dg.clashC l r
  congr 1
  unfold Dg.clashR
  rw [List.filter_map, List.map_map]
  rfl
structure CsI (l : List Dg.It) (A : Option Addr) (n c b7 b8 D : Nat) (w : World) (ps : List (Dg.Cl × Dg.Cl)) (W : World) : Prop where
 code : W.heap[w.heap.size]? = some (.cells #[.slice A n c] 24 (0, 0))
 fb : W.heap[b7]? = some (.cells #[.func (.func 35) #[] #[.pointer (some ⟨w.heap.size, 0, none⟩)]] 86 (0, 0))
 ob : ∃ v, W.heap[b8]? = some (.cells #[v] 41 (0, 0)) ∧ Own1 prL 91 W (w.heap.size + 1) v (outL l ps)
 below : Below w.heap.size w W
 sz : D ≤ W.heap.size
theorem CsI.next {l : List Dg.It} {A : Option Addr} {n c b7 b8 D : Nat} {w : World} {ps : List (Dg.Cl × Dg.Cl)} {W W' : World} (h : CsI l A n c b7 b8 D w ps W) (hb : Below W.heap.size W W') : CsI l A n c b7 b8 D w ps W' := by
 obtain ⟨v, h1, h2⟩ := h.ob
 exact ⟨iNext h.code hb, iNext h.fb hb, ⟨v, iNext h1 hb, h2.below hb⟩, bnext h.below hb, Nat.le_trans h.sz hb.size⟩
theorem CsI.own {l : List Dg.It} {A : Option Addr} {n c b7 b8 D : Nat} {w : World} {ps : List (Dg.Cl × Dg.Cl)} {W W' : World} (h : CsI l A n c b7 b8 D w ps W) {row : Option Nat} (hg : W.grownBy W' row) (hw : w.heap.size ≤ D) (hr : ∀ r, row = some r → D ≤ r ∧ ∃ o : Obj, W.heap[r]? = some o ∧ o.isCells = false) : CsI l A n c b7 b8 D w ps W' := by
 have hc : ∀ {k : Nat} {cs : Array Value} {t : TypeId} {fr : Nat × Nat}, W.heap[k]? = some (.cells cs t fr) → W'.heap[k]? = W.heap[k]? := fun {k cs t fr} hk => hg.block k (lt_of_block hk) (fun e => by
  obtain ⟨_, o, ho, hf⟩ := hr k e.symm
  rw [hk] at ho
  injection ho with ho
  rw [← ho] at hf
  cases hf)
 obtain ⟨v, h1, h2⟩ := h.ob
 refine ⟨(hc h.code).trans h.code, (hc h.fb).trans h.fb, ⟨v, (hc h1).trans h1, ?_⟩, h.below.trans ((Below.refl w.heap.size W).grown hg h.below.size fun k hk => by have := (hr k hk).1; omega), Nat.le_trans h.sz hg.size⟩
 obtain ⟨h3, h4⟩ := h2
 refine ⟨h3, ?_⟩
 rcases h4 with h4 | ⟨b, cap, cur, hv, hB, hh, r⟩
 ·exact Or.inl h4
 ·exact Or.inr ⟨b, cap, cur, hv, hB, (hc hh).trans hh, r⟩
theorem ld_func {X : World} {b : Nat} {v : Value} (h : X.heap[b]? = some (.cells #[v] 86 (0, 0))) : (Instr.loadAt 86 (.pointer (some ⟨b, 0, none⟩))).run Tryz.prog X = .ok v X := by
 have c0 := iCells0 h
 simp [Instr.loadAt, Instr.sureAddr, loadVar, isAgg, run_underlying underlying86, c0]
theorem ld_spr {X : World} {b : Nat} {v : Value} (h : X.heap[b]? = some (.cells #[v] 41 (0, 0))) : (Instr.loadAt 41 (.pointer (some ⟨b, 0, none⟩))).run Tryz.prog X = .ok v X := by
 have c0 := iCells0 h
 simp [Instr.loadAt, Instr.sureAddr, loadVar, isAgg, run_underlying underlying41, c0]
theorem ld_its {X : World} {b : Nat} {v : Value} {T : TypeId} (h : X.heap[b]? = some (.cells #[v] T (0, 0))) : (Instr.loadAt 22 (.pointer (some ⟨b, 0, none⟩))).run Tryz.prog X = .ok v X := by
 have c0 := iCells0 h
 simp [Instr.loadAt, Instr.sureAddr, loadVar, isAgg, run_underlying underlying22, c0]
theorem ld_code {X : World} {b : Nat} {v : Value} (h : X.heap[b]? = some (.cells #[v] 24 (0, 0))) : (Instr.loadAt 24 (.pointer (some ⟨b, 0, none⟩))).run Tryz.prog X = .ok (.agg #[v]) X :=
 run_loadAt_mid X b 0 24 [v] _ (range_of h 0 [v] rfl) underlying24 rfl (by kernel_rfl)
theorem ld_pt {X : World} {b : Nat} {x : Dg.Cl} (h : X.heap[b]? = some (.cells (clC x) 55 (0, 0))) : (Instr.loadAt 53 (.pointer (some ⟨b, 4, none⟩))).run Tryz.prog X = .ok (.agg (Rq0 x.patch)) X :=
 run_loadAt_mid X b 4 53 (Rq0 x.patch : List Value) _ (range_of h 4 (Rq0 x.patch) rfl) underlying53 rfl (by kernel_rfl)
theorem ld_st {X : World} {b : Nat} {x : Dg.Cl} (h : X.heap[b]? = some (.cells (clC x) 55 (0, 0))) : (Instr.loadAt 49 (.pointer (some ⟨b, 0, none⟩))).run Tryz.prog X = .ok (.agg #[.int .i64 x.id.seat, .int .i64 x.id.count]) X :=
 run_loadAt_mid X b 0 49 [.int .i64 x.id.seat, .int .i64 x.id.count] _ (range_of h 0 [.int .i64 x.id.seat, .int .i64 x.id.count] rfl) underlying49 rfl (by kernel_rfl)
section
attribute [local go_sem] Oper.semAt_some
theorem prsL_len : ∀ ls : List Dg.Cl, (prsL ls).length ≤ ls.length * ls.length
 | [] => Nat.le_refl _
 | a :: r => by
  have := prsL_len r
  rw [prsL, List.length_append, List.length_map, List.length_cons, Nat.add_mul, Nat.mul_add]
  omega
theorem row_pt2 (w : World) (p q : Dg.Pt) (ty : TypeId) : Row1 ptL (w.alloc (.cells (Rq21 p q) ty)) (w.heap.size + 1) (some ⟨w.heap.size, 0, none⟩) [p, q] := ⟨fun _ => ⟨w.heap.size, 0, rfl, by omega, fun j u hu => by
 rw [cell_of_row _ _ _ _ _ _ (heap_alloc_new w _), ← Array.getElem?_toList, Nat.zero_add]
 have e : ptL.flat [p, q] = (Rq21 p q : List Value) := by rfl
 rw [e] at hu
 exact hu⟩⟩
theorem row_pt3 (w : World) (p q : Dg.Pt) (ty : TypeId) (k : Nat) (hk : w.heap.size = k) : Row1 ptL (w.alloc (.cells (Rq21 p q) ty)) (w.alloc (.cells (Rq21 p q) ty)).heap.size (some ⟨k, 0, none⟩) [p, q] := by
 subst hk
 rw [World.size_alloc]
 exact row_pt2 w p q ty
theorem one_func (v : Nat) : ∀ u ∈ (Value.func (.func 35) #[] #[.pointer (some ⟨v, 0, none⟩)]).cells.toList, u.oneCell' = true := fun u hu => by
 have : u = .func (.func 35) #[] #[.pointer (some ⟨v, 0, none⟩)] := by simpa [Value.cells] using hu
 subst this
 rfl
theorem pairs_stops (n : Nat) (hn : 2 ≤ n) (ls : List Dg.Cl) (A : Option Addr) (m c b1 : Nat) (hls : ∀ c ∈ ls, PtM c.patch) (w : World) (hO : PrS ls A m c b1 w) :
  SeqStopsK Fence.wide n Tryz.prog 70 #[.pointer (some ⟨b1, 0, none⟩)] (fun x : PrP => prsE x.1) FrP (fun ss => prV ss = prsL ls) (fun _ => True) (prsL ls).length w := fun l J Jx W hW hJ _ hY h0 =>
 pairs1_in n hn l ls A m c b1 hls J Jx hY W hJ (hO.below hW) h0
theorem CsI.quiet {l : List Dg.It} {A : Option Addr} {n c b7 b8 D : Nat} {w : World} {ps : List (Dg.Cl × Dg.Cl)} {p : Dg.Cl × Dg.Cl} {W : World} (h : CsI l A n c b7 b8 D w ps W) (hp : Dg.clashB l p.1.patch p.2.patch = false) : CsI l A n c b7 b8 D w (ps ++ [p]) W := by
 obtain ⟨v, h1, h2⟩ := h.ob
 exact ⟨h.code, h.fb, ⟨v, h1, by rw [outL_snoc, if_neg (by rw [hp]; decide)]; exact h2⟩, h.below, h.sz⟩
theorem prInf : (Tryz.prog.info? 91).map (fun i => (i.zero, i.size, i.bytes)) = some (some (.agg #[.int .i64 0, .int .i64 0, .int .i64 0, .int .i64 0]), prL.k, 32) := by kernel_rfl
theorem row_pr (w : World) (s : Dg.Sp × Dg.Sp) (ty : TypeId) : Row1 prL (w.alloc (.cells #[.int .i64 s.1.seat, .int .i64 s.1.count, .int .i64 s.2.seat, .int .i64 s.2.count] ty)) (w.heap.size + 1) (some ⟨w.heap.size, 0, none⟩) [s] := ⟨fun _ => ⟨w.heap.size, 0, rfl, by omega, fun j u hu => by
 rw [cell_of_row _ _ _ _ _ _ (heap_alloc_new w _), ← Array.getElem?_toList, Nat.zero_add]
 have e : prL.flat [s] = [.int .i64 s.1.seat, .int .i64 s.1.count, .int .i64 s.2.seat, .int .i64 s.2.count] := by rfl
 rw [e] at hu
 exact hu⟩⟩
theorem st_spr (W : World) (b : Nat) (v8 v9 : Value) {B : Nat} {L : List (Dg.Sp × Dg.Sp)} (k : Own1 prL 91 W B v9 L) (h : W.heap[b]? = some (.cells #[v8] 41 (0, 0))) : (Instr.storeAt 41 (.pointer (some ⟨b, 0, none⟩)) v9).run Tryz.prog W = .ok () (W.setRow b #[v9]) := by
 obtain ⟨A9, c9, hv9, _, _⟩ := k.row
 subst hv9
 exact store_part (ty := 41) W b 0 #[v8] _ #[_] h (by kernel_rfl) (Nat.le_refl _) (fun u hu => by
  have : u = .slice A9 L.length c9 := by simpa [Value.cells] using hu
  subst this
  rfl) rfl
theorem clash_fin {l : List Dg.It} {A : Option Addr} {n c b7 b8 D : Nat} {w : World} {ps : List (Dg.Cl × Dg.Cl)} {W W7 W8 : World} {v8 v9 : Value} {p : Dg.Cl × Dg.Cl} (hB : Below W.heap.size W W7) (hI : CsI l A n c b7 b8 D w ps W7) (hw : w.heap.size < b7 ∧ b7 < b8) (ho : W7.heap[b8]? = some (.cells #[v8] 41 (0, 0))) (hO : Own1 prL 91 W7 (w.heap.size + 1) v8 (outL l ps)) (k1 : Own1 prL 91 W8 (w.heap.size + 1) v9 (outL l ps ++ [(p.1.id, p.2.id)])) (k3 : W7.grownBy W8 v8.ownBlock) (hp : Dg.clashB l p.1.patch p.2.patch = true) :
  KeepsFrom D W (W8.setRow b8 #[v9]) ∧ FrP W (W8.setRow b8 #[v9]) ∧ CsI l A n c b7 b8 D w (ps ++ [p]) (W8.setRow b8 #[v9]) := by
 have ho9 := row_grown ho hO (by decide) k3
 have hsz : W7.heap.size ≤ (W8.setRow b8 #[v9]).heap.size := by simpa [World.setRow] using k3.size
 have hk : ∀ (k : Nat) (o : Obj), W.heap[k]? = some o → (∀ cs fr, o ≠ .cells cs 41 fr) → (∀ cs fr, o ≠ .cells cs 91 fr) → (W8.setRow b8 #[v9]).heap[k]? = some o := fun k o hk h1 h2 => by
  have e7 := (hB.block k (lt_of_block hk)).trans hk
  have e8 : W8.heap[k]? = some o := by
   refine (k3.block k (lt_of_block e7) fun e => ?_).trans e7
   rcases hO.2 with ⟨e9, _⟩ | ⟨b, cap, cur, hv, _, hh, _⟩
   ·rw [e9] at e; cases e
   ·rw [hv] at e
    have hk2 : b = k := by injection e with e; exact e.symm
    subst hk2
    rw [hh] at e7
    injection e7 with e7
    exact h2 _ _ e7.symm
  have hne : k ≠ b8 := fun e => by
   subst e
   rw [ho9] at e8
   injection e8 with e8
   exact h1 _ _ e8.symm
  exact (setRow_other W8 b8 k #[v9] hne).trans e8
 refine ⟨⟨Nat.le_trans hB.size hsz, fun k o _ hk2 hc => hk k o hk2 (fun _ _ e => by rw [e] at hc; cases hc) (fun _ _ e => by rw [e] at hc; cases hc)⟩, fun k o hk2 _ h1 h2 => hk k o hk2 h1 h2, ?_⟩
 have hb8 : w.heap.size ≤ b8 := by omega
 have hBW := hI.below.trans ((Below.refl w.heap.size W7).grown k3 hI.below.size fun k hk => by have := (World.ownsRow.lt hO k hk).1; omega)
 have hne9 : v9.ownBlock ≠ some b8 := fun e => by
  rcases k1.2 with ⟨e9, _⟩ | ⟨b, cap, cur, hv, _, hh, _⟩
  ·rw [e9] at e; cases e
  ·rw [hv] at e
   have hk2 : b = b8 := by injection e
   subst hk2
   rw [hh] at ho9
   injection ho9 with ho9
   injection ho9 with _ ho9 _
   exact absurd ho9 (by decide)
 exact ⟨(setRow_other W8 b8 _ #[v9] (by omega)).trans (row_grown hI.code hO (by decide) k3), (setRow_other W8 b8 _ #[v9] (by omega)).trans (row_grown hI.fb hO (by decide) k3), ⟨v9, setRow_heap W8 b8 _ #[v9] _ _ ho9, by rw [outL_snoc, if_pos hp]; exact own_other k1 hne9 _⟩, below_setRow hBW hb8 _, Nat.le_trans hI.sz hsz⟩
attribute [-go_sem] Instr.storeAt Instr.loadAt in
theorem clashR_of (l : List Dg.It) (A : Option Addr) (n c : Nat) (hl : l.length = n) (hnc : n ≤ c) (hn : n ≤ 1048576) (hw : ∀ x ∈ l, ItW x) (cs : List Dg.Cl) (AC : Option Addr) (m cm : Nat) (hm : cs.length = m) (hm2 : m ≤ 1000) (hps : ∀ x ∈ cs, PtM x.patch) (w : World) (hI : Its w w.heap.size A l) (hC : Row1 clL w w.heap.size AC cs) (hmj : MaxJ w) (Q : List (Dg.Sp × Dg.Sp) × Int) (hQ : (if (openR l cs).2 = 0 then (Dg.clashC l (Dg.openL cs), 0) else (([], (openR l cs).2) : List (Dg.Sp × Dg.Sp) × Int)) = Q) :
  Calls Tryz.prog 11 #[.agg #[.slice A n c], .slice AC m cm] w fun e w' => ∃ v, e = .returned (.tuple #[v, .int .i64 Q.2]) ∧ Own1 prL 91 w' w.heap.size v Q.1 ∧ Below w.heap.size w w' := by
 have hmf : ∀ (fn : Fn) (first cap : Array Value) (w : World), (Instr.makeFunc fn first cap).run Tryz.prog w = .ok (.func fn first cap) w := fun _ _ _ _ => rfl
 have r1 := heap_alloc_new w (.cells #[.slice A n c] 24)
 have hb1 := nwB w (.cells #[.slice A n c] 24)
 obtain ⟨q, hq⟩ : ∃ q, openR l cs = q := ⟨_, rfl⟩
 rw [hq] at hQ
 have HOP := hide (openR_of l A n c hl hn hw cs AC m cm hm (by omega) (w.alloc (.cells #[.slice A n c] 24)) (hI.keep hb1) (hC.keep hb1) q hq)
 have HPO := hide (fun (ps : List Dg.Pt) (AP : Option Addr) (k ck : Nat) (u : World) (hk : ps.length = k) (hk2 : k ≤ 1048576) (hp : ∀ p ∈ ps, PtM p) (hu : Below w.heap.size w u) (hc : u.heap[w.heap.size]? = some (.cells #[.slice A n c] 24 (0, 0))) (hP : Row1 ptL u u.heap.size AP ps) => poss_of w.heap.size l A n c hl hnc hn hw ps AP k ck hk hk2 hp u hc ((hI.below hu).more hu.size) hP (hmj.next hu))
 have HAL := hide (fun (ps : List Dg.Pt) (AP : Option Addr) (k ck : Nat) (u : World) (hk : ps.length = k) (hk2 : k ≤ 1048576) (hp : ∀ p ∈ ps, PtM p) (hu : Below w.heap.size w u) (hP : Row1 ptL u u.heap.size AP ps) => all_any l A n c hl hnc hn hw ps AP k ck hk hk2 hp u ((hI.below hu).more hu.size) hP (hmj.next hu))
 have HR1 := hide r1; have HB1 := hide hb1; have HZ := hide (World.size_alloc w (.cells #[.slice A n c] 24))
 have HM := hide hm; have HQ := hide hQ; have HPS := hide hps; have HQQ := hide hq
 have c1 := ld_code r1
 clear r1 hb1 hI hC hl hw hm hQ hq hps hmj
 refine (callsIn_wide (n := 5)).1 ?_
 refine callsIn_of_wp_marks func11 rfl trivial ?_ rfl
 simp only [ntmps11, List.size_toArray, List.length_cons, List.length_nil, Nat.reduceAdd, Nat.reduceSub, Array.replicate_succ, Array.replicate_zero, List.push_toArray, List.append_toArray, List.nil_append, List.cons_append]
 gi_wp2_with fail
 refine ⟨trivial, ?_⟩
 refine (callsIn_wide.2 HOP.out).mono ?_
 rintro e w2 ⟨v2, rfl, hO2, hb2⟩
 clear c1
 have HO2 := hide (show Own1 clL 55 w2 (w.heap.size + 1) v2 q.1 by have := hO2; rw [HZ.out] at this; exact this)
 have HR2 := hide (iNext HR1.out hb2); have HB2 := hide (bnext HB1.out hb2)
 have HWL := hide (lt_of_block HR2.out)
 clear hO2 hb2 HR1 HB1 HOP HZ
 by_cases hq0 : q.2 = 0
 case neg =>
  have hqe : Q = ([], q.2) := by rw [← HQ.out, if_neg hq0]
  have hb : (q.2 != 0) = true := by rw [bne, beq_eq_false_iff_ne.2 hq0]; rfl
  subst hqe
  obtain ⟨q1, q2⟩ := q
  clear HQ HQQ HO2 HPO HAL HPS HM
  gi_wp2
  exact ⟨_, results_tmp2 rfl _ _ _, _, rfl, Own1.nil _ _ _ _, HB2.out⟩
 have hval : q.1 = Dg.openL cs := by
  have := HQQ.out
  unfold openR at this
  split at this
  ·rw [← this] at hq0; cases hq0
  ·split at this
   ·rw [← this] at hq0; cases hq0
   ·rw [← this]
 obtain ⟨ls, hls⟩ : ∃ ls, Dg.openL cs = ls := ⟨_, rfl⟩
 have hqt : (Dg.clashC l ls, (0 : Int)) = Q := by rw [← HQ.out, if_pos hq0, hls]
 have hlp : ∀ x ∈ ls, PtM x.patch := by rw [← hls]; exact Dg.openL_all HPS.out
 have hlm : ls.length ≤ 1000 := by rw [← hls]; have := Dg.openL_len cs; have := HM.out; omega
 have hO := HO2.out
 rw [hval, hls] at hO
 rw [hq0]
 have HQT := hide hqt; have HLP := hide hlp
 clear hqt hlp hval hls HO2 HQ HQQ HPS hq0
 obtain ⟨A2, c2, rfl, _, hc2⟩ := hO.row
 obtain ⟨k2, hk2⟩ : ∃ k2, ls.length = k2 := ⟨_, rfl⟩
 have HO := hide hO; have HK2 := hide hk2
 rw [hk2] at hlm hc2 ⊢
 clear hO hk2
 have hrn := heap_alloc_new w2 (.cells #[.nilFunc] 86)
 have hst := store_part (ty := 86) (w2.alloc (.cells #[.nilFunc] 86)) w2.heap.size 0 #[.nilFunc] (.func (.func 35) #[] #[.pointer (some ⟨w.heap.size, 0, none⟩)]) #[.func (.func 35) #[] #[.pointer (some ⟨w.heap.size, 0, none⟩)]] hrn (by kernel_rfl) (Nat.le_refl _) (one_func _) rfl
 have hr7 := setRow_heap (w2.alloc (.cells #[.nilFunc] 86)) w2.heap.size _ #[.func (.func 35) #[] #[.pointer (some ⟨w.heap.size, 0, none⟩)]] _ _ hrn
 have hb3 := below_setRow (nwB w2 (.cells #[.nilFunc] 86)) (Nat.le_refl _) (g := w2.heap.size) #[.func (.func 35) #[] #[.pointer (some ⟨w.heap.size, 0, none⟩)]]
 have hsz3 : ((w2.alloc (.cells #[.nilFunc] 86)).setRow w2.heap.size #[.func (.func 35) #[] #[.pointer (some ⟨w.heap.size, 0, none⟩)]]).heap.size = w2.heap.size + 1 := by simp [World.setRow]
 have HR3 := hide (iNext HR2.out hb3); have HB3 := hide (bnext HB2.out hb3); have HO3 := hide (HO.out.below hb3); have HR7 := hide hr7
 clear hr7 hb3 HO HB2 HR2 hrn
 gi_wp2_with fail
 clear hst
 generalize (w2.alloc (.cells #[.nilFunc] 86)).setRow w2.heap.size #[.func (.func 35) #[] #[.pointer (some ⟨w.heap.size, 0, none⟩)]] = w3 at *
 refine ⟨trivial, ?_⟩
 refine (callsIn_wide.2 (pairs_of A2 k2 c2 _)).mono ?_
 rintro e w5 ⟨rfl, rfl⟩
 have hbn1 := nwB w3 (.cells Rq3 41)
 have hbn2 := Below.news (Below.refl (w3.alloc (.cells Rq3 41)).heap.size (w3.alloc (.cells Rq3 41))) (.cells #[.slice A2 k2 c2] 30)
 have hbn := bnext hbn1 hbn2
 have r8 := iNext (heap_alloc_new w3 (.cells Rq3 41)) hbn2
 have r1 := heap_alloc_new (w3.alloc (.cells Rq3 41)) (.cells #[.slice A2 k2 c2] 30)
 have hsz4 : (w3.alloc (.cells Rq3 41)).heap.size = w2.heap.size + 2 := by rw [World.size_alloc, hsz3]
 rw [hsz3] at r8
 rw [hsz4] at r1 ⊢
 have HR5 := hide (iNext HR3.out hbn); have HB5 := hide (bnext HB3.out hbn); have HO5 := hide (HO3.out.below hbn); have HR75 := hide (iNext HR7.out hbn); have HR8 := hide r8; have HR15 := hide r1
 clear hbn1 hbn2 hbn r8 r1 hsz4 HR3 HB3 HO3 HR7 hsz3
 generalize (w3.alloc (.cells Rq3 41)).alloc (.cells #[.slice A2 k2 c2] 30) = w5 at *
 gi_wp2_with fail
 have hPS : PrS ls A2 k2 c2 (w2.heap.size + 2) w5 := ⟨HR15.out, fun h0 => by
  obtain ⟨g, cap, sp, he, _, _, hgr, _⟩ := HO5.out.form (List.length_pos_iff.2 h0)
  injection he with he
  exact ⟨g, sp, he, hgr⟩, HK2.out, hc2, hlm⟩
 have hN : (prsL ls).length ≤ 1000000 := by
  have := prsL_len ls
  rw [HK2.out] at this
  have := Nat.mul_le_mul hlm hlm
  omega
 have HCI : CsI l A n c w2.heap.size (w2.heap.size + 1) w5.heap.size w [] w5 := ⟨HR5.out, HR75.out, ⟨_, HR8.out, Own1.nil _ _ _ _⟩, HB5.out, Nat.le_refl _⟩
 have hws := HB5.out.size
 have hgw : w.heap.size < w2.heap.size ∧ w2.heap.size < w2.heap.size + 1 := ⟨HWL.out, Nat.lt_succ_self _⟩
 refine rangeFunc_box2 (n := 5) rfl (by omega) (gf := 70) (lb := #[.pointer (some ⟨w2.heap.size + 2, 0, none⟩)]) rfl trivial (enters_of func70 (by kernel_rfl) rfl)
  (pairs_stops 4 (by omega) ls A2 k2 c2 (w2.heap.size + 2) HLP.out w5 hPS) (fun h k => FrP.trans h k) (fun W l o o' _ ho hc _ => FrP.put o' ho hc) (Below.refl _ _) (fun _ => rfl)
  (fun (pre : List PrP) W => CsI l A n c w2.heap.size (w2.heap.size + 1) w5.heap.size w (prV pre) W) (fun pre W W' row h hg hr => h.own hg hws hr) HCI 9 10
  (fun x p q W => W.heap[p]? = some (.cells (clC x.1.1) 55 (0, 0)) ∧ W.heap[q]? = some (.cells (clC x.1.2) 55 (0, 0)))
  ?hR ?hassign ?hbody ?hdone
 case hR =>
  rintro x p q u W W' row ⟨h1, h2⟩ hg hr
  have hc : ∀ {k : Nat} {cs : Array Value} {t : TypeId} {fr : Nat × Nat}, W.heap[k]? = some (.cells cs t fr) → W'.heap[k]? = W.heap[k]? := fun {k cs t fr} hk => hg.block k (lt_of_block hk) (fun e => by
   obtain ⟨_, o, ho, hf⟩ := hr k e.symm
   rw [hk] at ho
   injection ho with ho
   rw [← ho] at hf
   cases hf)
  exact ⟨(hc h1).trans h1, (hc h2).trans h2⟩
 case hassign =>
  intro lp pre x W K hI hK
  have hst1 := store_newcl W x.1.1
  have hst2 := store_newcl (W.alloc (.cells (clC x.1.1) 55)) x.1.2
  rw [World.size_alloc] at hst2
  have hb1 := nwB W (.cells (clC x.1.1) 55)
  have hb2 := Below.news (Below.refl (W.alloc (.cells (clC x.1.1) 55)).heap.size (W.alloc (.cells (clC x.1.1) 55))) (.cells (clC x.1.2) 55)
  have hb := bnext hb1 hb2
  have q1 := iNext (heap_alloc_new W (.cells (clC x.1.1) 55)) hb2
  have q2 := heap_alloc_new (W.alloc (.cells (clC x.1.1) 55)) (.cells (clC x.1.2) 55)
  rw [World.size_alloc] at q2
  have hk := hK W.heap.size (W.heap.size + 1) _ ⟨hb.size, fun k o _ hk _ => (hb.block k (lt_of_block hk)).trans hk⟩ (FrP.below hb) (hI.next hb) ⟨q1, q2⟩
  have HKK := hide hk
  clear hK hI hb1 hb2 hb q1 q2 hk
  simp only [prsE]
  gi_wp2
  have h9 := HKK.out
  simp [prsE] at h9
  exact h9
 case hbody =>
  rintro lp pre x p q W hI ⟨h1, h2⟩ hlt
  have hpl : (outL l (prV pre)).length ≤ 1000000 := by
   have := outL_len l (prV pre)
   rw [prV_len] at this
   omega
  have lp1 := ld_pt h1
  have lf1 := ld_func hI.fb
  have hbn := nwB W (.cells (Rq0 x.1.1.patch) 53)
  have hIA := hI.next hbn
  have h1A := iNext h1 hbn
  have h2A := iNext h2 hbn
  obtain ⟨pa, hpa⟩ : ∃ pa, decide ((Dg.allW l [x.1.1.patch]).2 = 0) = pa := ⟨_, rfl⟩
  have HCA := hide (HPO.out [x.1.1.patch] (some ⟨W.heap.size, 0, none⟩) 1 1 (W.alloc (.cells (Rq0 x.1.1.patch) 53)) rfl (by decide) (fun p hp => by rw [List.mem_singleton.1 hp]; exact x.2.1) hIA.below hIA.code (by rw [World.size_alloc]; exact row_pt W x.1.1.patch 53))
  rw [hpa] at HCA
  have HIA := hide hIA; have H1A := hide h1A; have H2A := hide h2A; have HPA := hide hpa; have HPL := hide hpl; have HBA := hide hbn
  clear hI h1 h2 hbn hIA h1A h2A hpa hpl hlt
  simp only [prsE]
  gi_wp2_with fail
  refine ⟨trivial, ?_⟩
  refine (CallsIn.inRound lp (callsIn_wide.2 HCA.out)).mono ?_
  rintro e W1 ⟨rfl, hb1⟩
  have HI1 := hide (HIA.out.next hb1); have H11 := hide (iNext H1A.out hb1); have H21 := hide (iNext H2A.out hb1); have HB1 := hide (bnext HBA.out hb1)
  clear hb1 lp1 lf1 HCA HIA H1A H2A HBA
  cases pa with
  | false =>
   have hcl : Dg.clashB l x.1.1.patch x.1.2.patch = false := decide_eq_false fun h => of_decide_eq_false HPA.out h.1
   have HCL := hide hcl
   clear hcl
   gi_wp2
   repeat (refine ⟨fun _ _ => trivial, ?_⟩; gi_wp2)
   exact ⟨⟨HB1.out.size, fun k o _ hk _ => (HB1.out.block k (lt_of_block hk)).trans hk⟩, FrP.below HB1.out, by show CsI _ _ _ _ _ _ _ _ (prV (pre ++ [x])) _; rw [prV_snoc]; exact HI1.out.quiet HCL.out⟩
  | true =>
  have lp2 := ld_pt H21.out
  have lf2 := ld_func HI1.out.fb
  have hbn := nwB W1 (.cells (Rq0 x.1.2.patch) 53)
  obtain ⟨pb, hpb⟩ : ∃ pb, decide ((Dg.allW l [x.1.2.patch]).2 = 0) = pb := ⟨_, rfl⟩
  have HCB := hide (HPO.out [x.1.2.patch] (some ⟨W1.heap.size, 0, none⟩) 1 1 (W1.alloc (.cells (Rq0 x.1.2.patch) 53)) rfl (by decide) (fun p hp => by rw [List.mem_singleton.1 hp]; exact x.2.2) (HI1.out.next hbn).below (HI1.out.next hbn).code (by rw [World.size_alloc]; exact row_pt W1 x.1.2.patch 53))
  rw [hpb] at HCB
  have HPB := hide hpb
  have HI2 := hide (HI1.out.next hbn); have H12 := hide (iNext H11.out hbn); have H22 := hide (iNext H21.out hbn); have HB2 := hide (bnext HB1.out hbn)
  clear hpb hbn HI1 H11 H21 HB1
  gi_wp2_with fail
  refine ⟨trivial, ?_⟩
  refine (CallsIn.inRound lp (callsIn_wide.2 HCB.out)).mono ?_
  rintro e W3 ⟨rfl, hb3⟩
  have HI3 := hide (HI2.out.next hb3); have H13 := hide (iNext H12.out hb3); have H23 := hide (iNext H22.out hb3); have HB3 := hide (bnext HB2.out hb3)
  clear hb3 lp2 lf2 HCB HI2 H12 H22 HB2
  cases pb with
  | false =>
   have hcl : Dg.clashB l x.1.1.patch x.1.2.patch = false := decide_eq_false fun h => of_decide_eq_false HPB.out h.2.1
   have HCL := hide hcl
   clear hcl
   gi_wp2
   exact ⟨⟨HB3.out.size, fun k o _ hk _ => (HB3.out.block k (lt_of_block hk)).trans hk⟩, FrP.below HB3.out, by show CsI _ _ _ _ _ _ _ _ (prV (pre ++ [x])) _; rw [prV_snoc]; exact HI3.out.quiet HCL.out⟩
  | true =>
  have lc3 := ld_code HI3.out.code
  have lp3 := ld_pt H13.out
  have lq3 := ld_pt H23.out
  have hbn := Below.news (Below.refl (W3).heap.size (W3)) (.cells (Rq21 x.1.1.patch x.1.2.patch) 53)
  obtain ⟨Lp, Ep, hLp⟩ : ∃ L E, Dg.allW l [x.1.1.patch, x.1.2.patch] = (L, E) := ⟨_, _, rfl⟩
  have HCp := hide (HAL.out [x.1.1.patch, x.1.2.patch] (some ⟨W3.heap.size, 0, none⟩) 2 2 ((W3).alloc (.cells (Rq21 x.1.1.patch x.1.2.patch) 53)) rfl (by decide) (fun p hp => by rcases List.mem_cons.1 hp with rfl | hp; exact x.2.1; rw [List.mem_singleton.1 hp]; exact x.2.2) (HI3.out.next hbn).below (row_pt3 (W3) x.1.1.patch x.1.2.patch 53 (W3.heap.size) (by simp)))
  rw [hLp] at HCp
  have HLp := hide hLp
  have HIa := hide (HI3.out.next hbn); have H1a := hide (iNext H13.out hbn); have H2a := hide (iNext H23.out hbn); have HBa := hide (bnext HB3.out hbn)
  clear hbn hLp HI3 H13 H23 HB3
  gi_wp2_with fail
  refine ⟨trivial, ?_⟩
  refine (CallsIn.inRound lp (callsIn_wide.2 HCp.out)).mono ?_
  rintro e Wc4 ⟨vp, jp, rfl, hO, hb⟩
  clear HCp lc3 lp3 lq3
  obtain ⟨Ap, cp, hvp, _, _⟩ := hO.row
  have hst := store_new (ty := 24) (T := 24) Wc4 Rq3 #[vp] infoCode1 rfl (by subst hvp; simp [Value.oneCell'])
  clear hvp
  have hbn := bnext hb (nwB Wc4 (.cells #[vp] 24))
  have hbx := nwB Wc4 (.cells #[vp] 24)
  have HXp := hide (heap_alloc_new Wc4 (.cells #[vp] 24)); have HYp := hide (hO.below hbx)
  have HI4 := hide (HIa.out.next hbn); have H14 := hide (iNext H1a.out hbn); have H24 := hide (iNext H2a.out hbn); have HB4 := hide (bnext HBa.out hbn)
  clear hb hbn hbx hO HIa H1a H2a HBa
  have HX4 := HXp; have HY4 := HYp
  clear HXp HYp
  have lc4 := ld_code HI4.out.code
  have lp4 := ld_pt H24.out
  have lq4 := ld_pt H14.out
  have hbn := Below.news (Below.refl (Wc4.alloc (.cells #[vp] 24)).heap.size (Wc4.alloc (.cells #[vp] 24))) (.cells (Rq21 x.1.2.patch x.1.1.patch) 53)
  obtain ⟨Lr, Er, hLr⟩ : ∃ L E, Dg.allW l [x.1.2.patch, x.1.1.patch] = (L, E) := ⟨_, _, rfl⟩
  have HCr := hide (HAL.out [x.1.2.patch, x.1.1.patch] (some ⟨Wc4.heap.size + 1, 0, none⟩) 2 2 ((Wc4.alloc (.cells #[vp] 24)).alloc (.cells (Rq21 x.1.2.patch x.1.1.patch) 53)) rfl (by decide) (fun p hp => by rcases List.mem_cons.1 hp with rfl | hp; exact x.2.2; rw [List.mem_singleton.1 hp]; exact x.2.1) (HI4.out.next hbn).below (row_pt3 (Wc4.alloc (.cells #[vp] 24)) x.1.2.patch x.1.1.patch 53 (Wc4.heap.size + 1) (by simp)))
  rw [hLr] at HCr
  have HLr := hide hLr
  have HIa := hide (HI4.out.next hbn); have H1a := hide (iNext H14.out hbn); have H2a := hide (iNext H24.out hbn); have HBa := hide (bnext HB4.out hbn)
  have HXa := hide (iNext HX4.out hbn); have HYa := hide (HY4.out.below hbn)
  clear hbn hLr HI4 H14 H24 HB4 HX4 HY4
  gi_wp2_with fail
  refine ⟨trivial, ?_⟩
  refine (CallsIn.inRound lp (callsIn_wide.2 HCr.out)).mono ?_
  rintro e Wc5 ⟨vr, jr, rfl, hO, hb⟩
  clear HCr lc4 lp4 lq4 hst
  obtain ⟨Ar, cr, hvr, _, _⟩ := hO.row
  have hst := store_new (ty := 24) (T := 24) Wc5 Rq3 #[vr] infoCode1 rfl (by subst hvr; simp [Value.oneCell'])
  clear hvr
  have hbn := bnext hb (nwB Wc5 (.cells #[vr] 24))
  have hbx := nwB Wc5 (.cells #[vr] 24)
  have HXr := hide (heap_alloc_new Wc5 (.cells #[vr] 24)); have HYr := hide (hO.below hbx)
  have HI5 := hide (HIa.out.next hbn); have H15 := hide (iNext H1a.out hbn); have H25 := hide (iNext H2a.out hbn); have HB5 := hide (bnext HBa.out hbn)
  have HX5 := hide (iNext HXa.out hbn); have HY5 := hide (HYa.out.below hbn)
  clear HXa HYa
  clear hb hbn hbx hO HIa H1a H2a HBa
  have lix := ld_its HX5.out
  have liy := ld_its HXr.out
  obtain ⟨bl, hbl⟩ : ∃ bl, decide (Lp = Lr) = bl := ⟨_, rfl⟩
  have HEQ := hide (eqI_of vp vr Lp Lr _ _ _ HY5.out HYr.out bl hbl)
  have HBL := hide hbl
  have HCLS := hide (show Dg.clashB l x.1.1.patch x.1.2.patch = decide ((Dg.allW l [x.1.1.patch]).2 = 0 ∧ (Dg.allW l [x.1.2.patch]).2 = 0 ∧ (Ep ≠ 0 ∨ Er ≠ 0 ∨ Lp ≠ Lr)) by
   unfold Dg.clashB
   rw [HLp.out, HLr.out])
  have hP1 := of_decide_eq_true HPA.out
  have hP2 := of_decide_eq_true HPB.out
  have HP := hide (And.intro hP1 hP2)
  clear hbl HX5 HY5 HXr HYr HLp HLr HPA HPB hP1 hP2
  by_cases hEp : Ep = 0
  ·have hEpb : (Ep != 0) = false := by rw [hEp]; rfl
   by_cases hEr : Er = 0
   ·have hErb : (Er != 0) = false := by rw [hEr]; rfl
    have HE := hide (And.intro hEp hEr)
    clear hEp hEr
    gi_wp2_with fail
    refine ⟨trivial, ?_⟩
    refine (CallsIn.inRound lp (callsIn_wide.2 HEQ.out)).mono ?_
    rintro e W6 ⟨rfl, hb6⟩
    have HI6 := hide (HI5.out.next hb6); have H16 := hide (iNext H15.out hb6); have H26 := hide (iNext H25.out hb6); have HB6 := hide (bnext HB5.out hb6)
    clear hb6 hst lix liy HEQ HI5 H15 H25 HB5
    cases bl with
    | true =>
     have hcl : Dg.clashB l x.1.1.patch x.1.2.patch = false := by
      rw [HCLS.out]
      refine decide_eq_false fun h => ?_
      rcases h.2.2 with h | h | h
      ·exact h HE.out.1
      ·exact h HE.out.2
      ·exact h (of_decide_eq_true HBL.out)
     have HCL := hide hcl
     clear hcl HCLS HE HBL HP hEpb hErb
     gi_wp2
     exact ⟨⟨HB6.out.size, fun k o _ hk _ => (HB6.out.block k (lt_of_block hk)).trans hk⟩, FrP.below HB6.out, by show CsI _ _ _ _ _ _ _ _ (prV (pre ++ [x])) _; rw [prV_snoc]; exact HI6.out.quiet HCL.out⟩
    | false =>
     have hcl : Dg.clashB l x.1.1.patch x.1.2.patch = true := by
      rw [HCLS.out]
      exact decide_eq_true ⟨HP.out.1, HP.out.2, .inr (.inr (of_decide_eq_false HBL.out))⟩
     have HCL := hide hcl
     clear hcl HCLS HE HBL HP hEpb hErb
     obtain ⟨v8, ho8, hO8⟩ := HI6.out.ob
     have ls1 := ld_st H16.out
     have ls2 := ld_st H26.out
     have lo := ld_spr ho8
     have hbn := nwB W6 (.cells #[.int .i64 x.1.1.id.seat, .int .i64 x.1.1.id.count, .int .i64 x.1.2.id.seat, .int .i64 x.1.2.id.count] 91)
     have hI7 := HI6.out.next hbn
     have hO7 := hO8.below hbn
     have ho7 := iNext ho8 hbn
     have hpl := HPL.out
     have hsz7 : w.heap.size + 1 ≤ (W6.alloc (.cells #[.int .i64 x.1.1.id.seat, .int .i64 x.1.1.id.count, .int .i64 x.1.2.id.seat, .int .i64 x.1.2.id.count] 91)).heap.size := by have := lt_of_block hI7.code; omega
     have HB7 := hide (bnext HB6.out hbn); have HI7 := hide hI7; have HO7 := hide ho7; have HP7 := hide hO7
     clear ho8 hO8 hbn HI6 H16 H26 HB6 hI7 ho7
     gi_wp2_with (gi_at_builtin; refine step_app1In (L := prL) rfl (.tmp 81) (.tmp 87) 41 91 _ 32 rfl underlying41 prInf rfl (by decide) (w.heap.size + 1) (W6.heap.size + 1) v8 (outL l (prV pre)) [(x.1.1.id, x.1.2.id)] rfl hO7 (some ⟨W6.heap.size, 0, none⟩) 1 1 rfl rfl (row_pr W6 (x.1.1.id, x.1.2.id) 91) (by omega) (by decide) hsz7 ?_)
     intro v9 W8 k1 k2 k3
     have hst := st_spr W8 (w2.heap.size + 1) v8 v9 k1 (row_grown HO7.out HP7.out (by decide) k3)
     have HFIN := hide (clash_fin HB7.out HI7.out hgw HO7.out HP7.out k1 k3 HCL.out)
     clear k1 k3 HB7 HI7 HO7 HP7 hO7 hsz7 hpl ls1 ls2 lo
     gi_wp2
     rw [← prV_snoc] at HFIN
     exact HFIN.out
   ·have hErb : (Er != 0) = true := by rw [bne, beq_eq_false_iff_ne.2 hEr]; rfl
    have hcl : Dg.clashB l x.1.1.patch x.1.2.patch = true := by
     rw [HCLS.out]
     exact decide_eq_true ⟨HP.out.1, HP.out.2, .inr (.inl hEr)⟩
    have HCL := hide hcl
    clear hcl HCLS HBL HP HEQ hEp hEr
    gi_wp2_with fail
    refine ⟨trivial, ?_⟩
    clear hst lix liy
    generalize Wc5.alloc (.cells #[vr] 24) = W6 at *
    have HI6 := HI5; have H16 := H15; have H26 := H25; have HB6 := HB5
    clear HI5 H15 H25 HB5
    obtain ⟨v8, ho8, hO8⟩ := HI6.out.ob
    have ls1 := ld_st H16.out
    have ls2 := ld_st H26.out
    have lo := ld_spr ho8
    have hbn := nwB W6 (.cells #[.int .i64 x.1.1.id.seat, .int .i64 x.1.1.id.count, .int .i64 x.1.2.id.seat, .int .i64 x.1.2.id.count] 91)
    have hI7 := HI6.out.next hbn
    have hO7 := hO8.below hbn
    have ho7 := iNext ho8 hbn
    have hpl := HPL.out
    have hsz7 : w.heap.size + 1 ≤ (W6.alloc (.cells #[.int .i64 x.1.1.id.seat, .int .i64 x.1.1.id.count, .int .i64 x.1.2.id.seat, .int .i64 x.1.2.id.count] 91)).heap.size := by have := lt_of_block hI7.code; omega
    have HB7 := hide (bnext HB6.out hbn); have HI7 := hide hI7; have HO7 := hide ho7; have HP7 := hide hO7
    clear ho8 hO8 hbn HI6 H16 H26 HB6 hI7 ho7
    gi_wp2_with (gi_at_builtin; refine step_app1In (L := prL) rfl (.tmp 81) (.tmp 87) 41 91 _ 32 rfl underlying41 prInf rfl (by decide) (w.heap.size + 1) (W6.heap.size + 1) v8 (outL l (prV pre)) [(x.1.1.id, x.1.2.id)] rfl hO7 (some ⟨W6.heap.size, 0, none⟩) 1 1 rfl rfl (row_pr W6 (x.1.1.id, x.1.2.id) 91) (by omega) (by decide) hsz7 ?_)
    intro v9 W8 k1 k2 k3
    have hst := st_spr W8 (w2.heap.size + 1) v8 v9 k1 (row_grown HO7.out HP7.out (by decide) k3)
    have HFIN := hide (clash_fin HB7.out HI7.out hgw HO7.out HP7.out k1 k3 HCL.out)
    clear k1 k3 HB7 HI7 HO7 HP7 hO7 hsz7 hpl ls1 ls2 lo
    gi_wp2
    rw [← prV_snoc] at HFIN
    exact HFIN.out
  ·have hEpb : (Ep != 0) = true := by rw [bne, beq_eq_false_iff_ne.2 hEp]; rfl
   have hcl : Dg.clashB l x.1.1.patch x.1.2.patch = true := by
    rw [HCLS.out]
    exact decide_eq_true ⟨HP.out.1, HP.out.2, .inl hEp⟩
   have HCL := hide hcl
   clear hcl HCLS HBL HP HEQ hEp
   gi_wp2_with fail
   refine ⟨trivial, ?_⟩
   clear hst lix liy
   generalize Wc5.alloc (.cells #[vr] 24) = W6 at *
   have HI6 := HI5; have H16 := H15; have H26 := H25; have HB6 := HB5
   clear HI5 H15 H25 HB5
   obtain ⟨v8, ho8, hO8⟩ := HI6.out.ob
   have ls1 := ld_st H16.out
   have ls2 := ld_st H26.out
   have lo := ld_spr ho8
   have hbn := nwB W6 (.cells #[.int .i64 x.1.1.id.seat, .int .i64 x.1.1.id.count, .int .i64 x.1.2.id.seat, .int .i64 x.1.2.id.count] 91)
   have hI7 := HI6.out.next hbn
   have hO7 := hO8.below hbn
   have ho7 := iNext ho8 hbn
   have hpl := HPL.out
   have hsz7 : w.heap.size + 1 ≤ (W6.alloc (.cells #[.int .i64 x.1.1.id.seat, .int .i64 x.1.1.id.count, .int .i64 x.1.2.id.seat, .int .i64 x.1.2.id.count] 91)).heap.size := by have := lt_of_block hI7.code; omega
   have HB7 := hide (bnext HB6.out hbn); have HI7 := hide hI7; have HO7 := hide ho7; have HP7 := hide hO7
   clear ho8 hO8 hbn HI6 H16 H26 HB6 hI7 ho7
   gi_wp2_with (gi_at_builtin; refine step_app1In (L := prL) rfl (.tmp 81) (.tmp 87) 41 91 _ 32 rfl underlying41 prInf rfl (by decide) (w.heap.size + 1) (W6.heap.size + 1) v8 (outL l (prV pre)) [(x.1.1.id, x.1.2.id)] rfl hO7 (some ⟨W6.heap.size, 0, none⟩) 1 1 rfl rfl (row_pr W6 (x.1.1.id, x.1.2.id) 91) (by omega) (by decide) hsz7 ?_)
   intro v9 W8 k1 k2 k3
   have hst := st_spr W8 (w2.heap.size + 1) v8 v9 k1 (row_grown HO7.out HP7.out (by decide) k3)
   have HFIN := hide (clash_fin HB7.out HI7.out hgw HO7.out HP7.out k1 k3 HCL.out)
   clear k1 k3 HB7 HI7 HO7 HP7 hO7 hsz7 hpl ls1 ls2 lo
   gi_wp2
   rw [← prV_snoc] at HFIN
   exact HFIN.out
 case hdone =>
  rintro D ys W hD hS hI hK
  obtain ⟨v, h1, h2⟩ := hI.ob
  rw [hS, outL_all] at h2
  have hl8 := ld_spr h1
  have H2 := hide h2; have HB := hide hI.below; have H1 := hide h1
  clear hI hS h2 h1
  have hqt := HQT.out
  subst hqt
  gi_wp2
  refine ⟨by simp, .inl ⟨_, _, rfl, run_takeDeferred hK, ?_⟩⟩
  have hgb := grownBy_putObj' W D (.deferred none)
  refine ⟨_, results_tmp2 rfl _ _ _, _, rfl, own_weak (own_kept H2.out fun k hk => hgb.block k (World.ownsRow.lt H2.out k hk).2 (fun e => ?_)) (Nat.le_succ _), HB.out.grown hgb HB.out.size (fun k hk => by injection hk with hk; omega)⟩
  injection e with e
  subst e
  rcases H2.out.2 with ⟨e, _⟩ | ⟨b, cap, cur, hv, _, hh, _⟩
  ·rw [e] at hk; cases hk
  ·rw [hv] at hk
   have hk2 : b = k := by injection hk
   subst hk2
   rw [hh] at hK
   cases hK
end
def two3 (le : Dg.Cl → Dg.Cl → Bool) (a b : Dg.Cl) : List Dg.Cl := if le a b = true then [a, b] else [b, a]
def add3 (le : Dg.Cl → Dg.Cl → Bool) (x y c : Dg.Cl) : List Dg.Cl := if le x c = true then x :: two3 le y c else [c, x, y]
def ms3 (le : Dg.Cl → Dg.Cl → Bool) : List Dg.Cl → List Dg.Cl
 | [] => []
 | [a] => [a]
 | [a, b] => two3 le a b
 | [a, b, c] => if le a b = true then add3 le a b c else add3 le b a c
 | l => l.mergeSort le
theorem ms3_eq (le : Dg.Cl → Dg.Cl → Bool) : ∀ l, l.mergeSort le = ms3 le l
 | [] => List.mergeSort_nil
 | [a] => List.mergeSort_singleton a
 | [a, b] => by
  rw [List.mergeSort]
  simp [List.MergeSort.Internal.splitInTwo, List.mergeSort, List.merge, ms3, two3]
 | [a, b, c] => by
  rw [List.mergeSort]
  simp [List.MergeSort.Internal.splitInTwo, List.mergeSort, List.merge, ms3, two3, add3]
  split <;> simp [List.merge] <;> split <;> simp [List.merge]
 | _ :: _ :: _ :: _ :: _ => rfl
def kidsX (pg : List Dg.Cl) (d : Dg.Sp) : List Dg.Cl := ms3 Dg.leC (pg.filter fun c => decide (c.after = d))
def walkX (pg : List Dg.Cl) : Nat → Dg.Sp → List Dg.Cl
 | 0, _ => []
 | f + 1, d => (kidsX pg d).flatMap fun c => c :: walkX pg f c.id
theorem walkX_eq (pg : List Dg.Cl) : ∀ (f : Nat) (d : Dg.Sp), Dg.walkC pg f d = walkX pg f d
 | 0, _ => rfl
 | f + 1, d => by
  unfold Dg.walkC walkX
  have e : Dg.kidsC pg d = kidsX pg d := ms3_eq _ _
  rw [e]
  congr 1
  funext c
  rw [walkX_eq pg f c.id]
def listX (pg : List Dg.Cl) : List Dg.Cl := walkX pg 1000001 Dg.Sp0
theorem listX_eq (pg : List Dg.Cl) : Dg.listC pg = listX pg := walkX_eq pg _ _
def joinX (a b : List Dg.Cl) : List Dg.Cl × Int :=
 match Dg.movedC a 0, Dg.movedC b 100 with
 | some x, some y => if (Dg.putsC [] (Dg.stabJ ltK (x ++ y))).2 = 0 then (listX (Dg.putsC [] (Dg.stabJ ltK (x ++ y))).1, 0) else ([], (Dg.putsC [] (Dg.stabJ ltK (x ++ y))).2)
 | _, _ => ([], 1)
theorem joinX_eq (a b : List Dg.Cl) : Dg.joinC (Dg.stabJ ltK) a b = joinX a b := by
 unfold Dg.joinC joinX
 cases Dg.movedC a 0 with
 | none => rfl
 | some x =>
  cases Dg.movedC b 100 with
  | none => rfl
  | some y =>
   dsimp only
   rw [listX_eq]
def exR (c : UInt8) : Dg.Pt := Dg.barePt 5 ⟨#[112, c]⟩
def exA : List Dg.Ac := [⟨0, 0, false, exR 49⟩, ⟨1, 0, false, exR 49⟩]
def exB : List Dg.Ac := [⟨0, 0, false, exR 50⟩]
def exC : List Dg.It := [⟨2, ⟨#[112, 49]⟩, ⟨#[]⟩, ⟨#[]⟩, ⟨#[]⟩, ⟨#[]⟩, false⟩, ⟨2, ⟨#[112, 50]⟩, ⟨#[]⟩, ⟨#[]⟩, ⟨#[]⟩, ⟨#[]⟩, false⟩]
def exX : List Dg.Cl × Int := joinX (listX (Dg.uniC 2 (Dg.actsC 2 exA).pg)) (listX (Dg.uniC 1 (Dg.actsC 1 exB).pg))
theorem exX_eq : Dg.joinC (Dg.stabJ ltK) (houseC 2 exA) (houseC 1 exB) = exX := by
 rw [joinX_eq]
 unfold houseC
 rw [listX_eq, listX_eq]
 rfl
theorem ex_join : exX.2 = 0 ∧ exX.1.length = 3 := by decide +kernel
theorem ex_taken : (openR exC exX.1).2 = 0 ∧ (Dg.takenC exC (Dg.openL exX.1)).1.length = 2 ∧ (Dg.takenC exC (Dg.openL exX.1)).2.length = 1 := by decide +kernel
theorem ex_house : (houseC 2 exA).length = 2 ∧ (houseC 1 exB).length = 1 := by
 unfold houseC
 rw [listX_eq, listX_eq]
 decide +kernel
attribute [-go_sem] Instr.storeAt in
theorem rep_of (s : ByteArray) (w : World) : Calls Tryz.prog 17 #[.string s] w fun e w' => e = .returned (.agg #[.int .i64 5, .string s, .string ⟨#[]⟩, .string ⟨#[]⟩, .string ⟨#[]⟩, .int .i64 0, .string ⟨#[]⟩, .string ⟨#[]⟩, .string ⟨#[]⟩, .string ⟨#[]⟩, .string ⟨#[]⟩, .bool false, .int .i64 0, .string ⟨#[]⟩, .string ⟨#[]⟩]) ∧ Below w.heap.size w w' := by
 have hst := store_new (ty := 53) (T := 53) w Rq2 #[.int .i64 5, .string s, .string ⟨#[]⟩, .string ⟨#[]⟩, .string ⟨#[]⟩, .int .i64 0, .string ⟨#[]⟩, .string ⟨#[]⟩, .string ⟨#[]⟩, .string ⟨#[]⟩, .string ⟨#[]⟩, .bool false, .int .i64 0, .string ⟨#[]⟩, .string ⟨#[]⟩] (by kernel_rfl) rfl (by simp [Value.oneCell'])
 have hbn := nwB w (.cells #[.int .i64 5, .string s, .string ⟨#[]⟩, .string ⟨#[]⟩, .string ⟨#[]⟩, .int .i64 0, .string ⟨#[]⟩, .string ⟨#[]⟩, .string ⟨#[]⟩, .string ⟨#[]⟩, .string ⟨#[]⟩, .bool false, .int .i64 0, .string ⟨#[]⟩, .string ⟨#[]⟩] 53)
 have r0 := heap_alloc_new w (.cells #[.int .i64 5, .string s, .string ⟨#[]⟩, .string ⟨#[]⟩, .string ⟨#[]⟩, .int .i64 0, .string ⟨#[]⟩, .string ⟨#[]⟩, .string ⟨#[]⟩, .string ⟨#[]⟩, .string ⟨#[]⟩, .bool false, .int .i64 0, .string ⟨#[]⟩, .string ⟨#[]⟩] 53)
 have HB := hide hbn; have HR := hide r0
 clear hbn r0
 go_enter func17, ntmps17
 go_wp2
 exact bodyPost_ret (results_cell_row (P := Tryz.prog) results17 _ _ w.heap.size 53 #[.int .i64 5, .string s, .string ⟨#[]⟩, .string ⟨#[]⟩, .string ⟨#[]⟩, .int .i64 0, .string ⟨#[]⟩, .string ⟨#[]⟩, .string ⟨#[]⟩, .string ⟨#[]⟩, .string ⟨#[]⟩, .bool false, .int .i64 0, .string ⟨#[]⟩, .string ⟨#[]⟩] (0, 0) _ rfl HR.out underlying53 rfl (by kernel_rfl)) rfl ⟨rfl, HB.out⟩
section
variable {P : Dg.Pt → Prop}
theorem setC_pt {pg : List Dg.Cl} {c : Dg.Cl} (h : ∀ x ∈ pg, P x.patch) (hc : P c.patch) : ∀ x ∈ Dg.setC pg c, P x.patch := fun x hx => by
 rcases Dg.mem_setC hx with rfl | ⟨hx, _⟩
 ·exact hc
 ·exact h x hx
theorem putC_pt {pg : List Dg.Cl} {c : Dg.Cl} (h : ∀ x ∈ pg, P x.patch) (hc : P c.patch) : ∀ x ∈ (Dg.putC pg c).1, P x.patch := by
 unfold Dg.putC
 split
 ·exact h
 ·split
  ·rename_i o ho
   split
   ·exact setC_pt h (h o (Dg.getC_some ho).1)
   ·exact h
  ·split
   ·exact h
   ·split
    ·exact h
    ·intro x hx
     rcases List.mem_append.1 hx with hx | hx
     ·exact h x hx
     ·rw [List.mem_singleton.1 hx]; exact hc
theorem act_pt {n : Nat} {s : Dg.Ch} (h : ∀ i, ∀ x ∈ s.pg i, P x.patch) (a : Dg.Ac) (ha : P a.patch) : ∀ i, ∀ x ∈ (Dg.actC n s a).pg i, P x.patch := by
 have up : ∀ (j : Nat) (pg : List Dg.Cl), (∀ x ∈ pg, P x.patch) → ∀ i, ∀ x ∈ Dg.upP s.pg j pg i, P x.patch := fun j pg hp i x hx => by
  unfold Dg.upP at hx
  split at hx
  ·exact hp x hx
  ·exact h i x hx
 unfold Dg.actC
 split
 ·unfold Dg.withdrawC
  split
  ·exact h
  ·split
   ·exact h
   ·rename_i c hc
    exact up _ _ (setC_pt (h _) (h _ c (Dg.getC_some hc).1))
 ·unfold Dg.proposeC
  split
  ·exact h
  ·split
   ·exact h
   ·split
    ·exact h
    ·exact up _ _ (putC_pt (h _) ha)
theorem acts_pt {n : Nat} : ∀ (l : List Dg.Ac) (s : Dg.Ch), (∀ i, ∀ x ∈ s.pg i, P x.patch) → (∀ a ∈ l, P a.patch) → ∀ i, ∀ x ∈ (l.foldl (Dg.actC n) s).pg i, P x.patch
 | [], _, h, _ => h
 | a :: l, s, h, hl => acts_pt l (Dg.actC n s a) (act_pt h a (hl a List.mem_cons_self)) fun b hb => hl b (List.mem_cons_of_mem _ hb)
theorem house_pt {n : Nat} {l : List Dg.Ac} (hl : ∀ a ∈ l, P a.patch) : ∀ c ∈ houseC n l, P c.patch := fun c hc => by
 have h1 := Dg.walkC_mem hc
 unfold Dg.uniC at h1
 obtain ⟨i, _, hi⟩ := List.mem_flatMap.1 h1
 exact acts_pt l Dg.Ch0 (fun _ _ h => (List.not_mem_nil h).elim) hl i c hi
end
theorem exR_pt1 : PtM (exR 49) := ⟨⟨by decide, by decide, by decide, by decide, ⟨by decide, by decide, by decide, by decide, by decide, by decide, by decide⟩, by decide, by decide, by decide, by decide⟩, by decide, by decide⟩
theorem exR_pt2 : PtM (exR 50) := ⟨⟨by decide, by decide, by decide, by decide, ⟨by decide, by decide, by decide, by decide, by decide, by decide, by decide⟩, by decide, by decide, by decide, by decide⟩, by decide, by decide⟩
theorem row_lit {α : Type} (L : Lay α) (w : World) (cs : Array Value) (ty : TypeId) (l : List α) (h : L.flat l = cs.toList) : Row1 L (w.alloc (.cells cs ty)) (w.alloc (.cells cs ty)).heap.size (some ⟨w.heap.size, 0, none⟩) l := ⟨fun _ => ⟨w.heap.size, 0, rfl, by rw [World.size_alloc]; omega, fun j u hu => by
 rw [cell_of_row _ _ _ _ _ _ (heap_alloc_new w _), ← Array.getElem?_toList, Nat.zero_add, ← h]
 exact hu⟩⟩
theorem ex_pt : ∀ x ∈ exX.1, PtM x.patch := by
 have h := Dg.joinC_keeps (P := PtM) (lt := ltK) (a := houseC 2 exA) (b := houseC 1 exB) (l := exX.1) (e := exX.2) (by rw [exX_eq]) ⟨⟨by decide, by decide, by decide, by decide, ⟨by decide, by decide, by decide, by decide, by decide, by decide, by decide⟩, by decide, by decide, by decide, by decide⟩, by decide, by decide⟩
  (house_pt fun a ha => by
   rcases List.mem_cons.1 ha with rfl | ha
   ·exact exR_pt1
   ·rw [List.mem_singleton.1 ha]; exact exR_pt1)
  (house_pt fun a ha => by rw [List.mem_singleton.1 ha]; exact exR_pt2)
 exact h.2
attribute [-go_sem] Instr.storeAt in
theorem chambers_of (w : World) (hmj : MaxJ w) : Calls Tryz.prog 4 #[] w fun e w' => e = .returned (.bool true) ∧ Below w.heap.size w w' := by
 have hst := store_new (ty := 24) (T := 24) (w.alloc (.cells Rq22 51)) Rq3 #[.slice (some ⟨w.heap.size, 0, none⟩) 2 2] infoCode1 rfl (by simp [Value.oneCell'])
 have hb0 := nwB w (.cells Rq22 51)
 have hb1 := Below.news (Below.refl (w.alloc (.cells Rq22 51)).heap.size (w.alloc (.cells Rq22 51))) (.cells #[.slice (some ⟨w.heap.size, 0, none⟩) 2 2] 24)
 have hI0 : Row1 iLay (w.alloc (.cells Rq22 51)) (w.alloc (.cells Rq22 51)).heap.size (some ⟨w.heap.size, 0, none⟩) exC := row_lit iLay w _ _ exC rfl
 have HI := hide (hI0.keep hb1)
 have HC := hide (heap_alloc_new (w.alloc (.cells Rq22 51)) (.cells #[.slice (some ⟨w.heap.size, 0, none⟩) 2 2] 24))
 have HB := hide (bnext hb0 hb1)
 have HMJ := hide hmj
 clear hb0 hb1 hI0 hmj
 rw [World.size_alloc] at HC hst
 go_enter func4, ntmps4
 go_wp2_with fail
 clear hst
 generalize (w.alloc (.cells Rq22 51)).alloc (.cells #[.slice (some ⟨w.heap.size, 0, none⟩) 2 2] 24) = w0 at *
 refine (rep_of ⟨#[112, 49]⟩ w0).mono ?_
 rintro e w1 ⟨rfl, hb1⟩
 go_wp2_with fail
 refine (rep_of ⟨#[112, 49]⟩ w1).mono ?_
 rintro e w2 ⟨rfl, hb2⟩
 have hb := bnext hb1 hb2
 have HI2 := hide (HI.out.keep hb); have HC2 := hide (iNext HC.out hb); have HB2 := hide (bnext HB.out hb)
 clear hb hb1 hb2 HI HC HB
 have hbn := nwB w2 (.cells Rq23 61)
 have HH := hide (show Calls Tryz.prog 7 #[.int .i64 2, .slice (some ⟨w2.heap.size, 0, none⟩) 2 2, .slice none 0 0] (w2.alloc (.cells Rq23 61)) _ from house_of 2 (by decide) (by decide) (w2.alloc (.cells Rq23 61)) exA (by decide) (fun a ha => by
  rcases List.mem_cons.1 ha with rfl | ha
  ·exact ⟨by decide, by decide⟩
  ·rw [List.mem_singleton.1 ha]; exact ⟨by decide, by decide⟩) (some ⟨w2.heap.size, 0, none⟩) 2 2 rfl (row_lit acL w2 _ _ exA rfl) [] (by decide) (fun _ h => (List.not_mem_nil h).elim) none 0 0 rfl (Row1.nil _ _ _ _))
 have HI3 := hide (HI2.out.keep hbn); have HC3 := hide (iNext HC2.out hbn); have HB3 := hide (bnext HB2.out hbn)
 clear hbn HI2 HC2 HB2
 go_wp2_with fail
 refine HH.out.mono ?_
 rintro e w4 ⟨⟨v4, rfl, hO4⟩, hb4⟩
 have HI4 := hide (HI3.out.keep hb4); have HC4 := hide (iNext HC3.out hb4); have HB4 := hide (bnext HB3.out hb4)
 have HO4 := hide (hO4.low (B' := w.heap.size) HB3.out.size)
 clear hO4 hb4 HI3 HC3 HB3 HH
 go_wp2_with fail
 refine (rep_of ⟨#[112, 50]⟩ w4).mono ?_
 rintro e w5 ⟨rfl, hb5⟩
 have hbn := bnext hb5 (nwB w5 (.cells Rq24 61))
 have HH := hide (show Calls Tryz.prog 7 #[.int .i64 1, .slice (some ⟨w5.heap.size, 0, none⟩) 1 1, .slice none 0 0] (w5.alloc (.cells Rq24 61)) _ from house_of 1 (by decide) (by decide) (w5.alloc (.cells Rq24 61)) exB (by decide) (fun a ha => by rw [List.mem_singleton.1 ha]; exact ⟨by decide, by decide⟩) (some ⟨w5.heap.size, 0, none⟩) 1 1 rfl (row_lit acL w5 _ _ exB rfl) [] (by decide) (fun _ h => (List.not_mem_nil h).elim) none 0 0 rfl (Row1.nil _ _ _ _))
 have HI6 := hide (HI4.out.keep hbn); have HC6 := hide (iNext HC4.out hbn); have HB6 := hide (bnext HB4.out hbn); have HO6 := hide (HO4.out.below hbn)
 clear hbn hb5 HI4 HC4 HB4 HO4
 go_wp2_with fail
 refine HH.out.mono ?_
 rintro e w7 ⟨⟨v7, rfl, hO7⟩, hb7⟩
 have HI7 := hide (HI6.out.keep hb7); have HC7 := hide (iNext HC6.out hb7); have HB7 := hide (bnext HB6.out hb7); have HO7 := hide (HO6.out.below hb7)
 have HP7 := hide hO7
 clear hO7 hb7 HI6 HC6 HB6 HO6 HH
 obtain ⟨Aa, ca, hva, hra, _⟩ := HO7.out.row
 obtain ⟨Ab, cb, hvb, hrb, _⟩ := HP7.out.row
 rw [ex_house.1] at hva
 rw [ex_house.2] at hvb
 subst hva hvb
 have HJ := hide (joinR_of (houseC 2 exA) Aa 2 ca ex_house.1 (by decide) (houseC 1 exB) Ab 1 cb ex_house.2 (by decide) w7 hra hrb exX exX_eq)
 rw [ex_join.1] at HJ
 clear hra hrb HO7 HP7
 go_wp2_with fail
 refine HJ.out.mono ?_
 rintro e w8 ⟨v8, rfl, hO8, hb8⟩
 have HI8 := hide (HI7.out.keep hb8); have HC8 := hide (iNext HC7.out hb8); have HB8 := hide (bnext HB7.out hb8)
 clear hb8 HI7 HC7 HB7 HJ
 obtain ⟨A8, c8, hv8, hr8, _⟩ := hO8.row
 rw [ex_join.2] at hv8
 subst hv8
 have c1 := iCells0 HC8.out
 obtain ⟨ex1, ex2, ex3⟩ := ex_taken
 have hq : resR exC exX.1 = (Dg.takenC exC (Dg.openL exX.1), 0) := if_pos ex1
 have HRS := hide (resR_of exC (some ⟨w.heap.size, 0, none⟩) 2 2 rfl (by decide) (by decide) (fun x hx => by
  rcases List.mem_cons.1 hx with rfl | hx
  ·exact ⟨by decide, by decide, by decide, by decide, by decide, by decide, by decide⟩
  ·rw [List.mem_singleton.1 hx]; exact ⟨by decide, by decide, by decide, by decide, by decide, by decide, by decide⟩) exX.1 A8 3 c8 ex_join.2 (by decide) ex_pt w8 HI8.out.its hr8 (HMJ.out.next HB8.out) _ hq)
 have HX := hide (And.intro ex2 ex3)
 clear ex1 ex2 ex3 hq hr8 hO8 HI8 HC8
 go_wp2_with fail
 refine HRS.out.mono ?_
 rintro e w9 ⟨vt, vl, rfl, hT, hS, hb9⟩
 obtain ⟨At, ct, hvt, _, _⟩ := hT.row
 obtain ⟨As, cs, hvs, _, _⟩ := hS.row
 rw [HX.out.1] at hvt
 rw [HX.out.2] at hvs
 subst hvt hvs
 have HB9 := hide (bnext HB8.out hb9)
 clear hT hS hb9 HRS HX c1
 go_wp2
 go_ret
 exact ⟨rfl, HB9.out⟩
theorem ex_zero : PtM Dg.Cl0.patch := ⟨⟨by decide, by decide, by decide, by decide, ⟨by decide, by decide, by decide, by decide, by decide, by decide, by decide⟩, by decide, by decide, by decide, by decide⟩, by decide, by decide⟩
theorem own_rowA {α : Type} {L : Lay α} {e : TypeId} {w : World} {B n c : Nat} {A : Option Addr} {l : List α} (h : Own1 L e w B (.slice A n c) l) : Row1 L w w.heap.size A l ∧ l.length = n := by
 obtain ⟨A', c', e, hr, _⟩ := h.row
 injection e with e1 e2 _
 subst e1
 exact ⟨hr, e2.symm⟩
theorem taken_pt {P : Dg.Pt → Prop} : ∀ (l : List Dg.It) (r : List Dg.Cl), (∀ x ∈ r, P x.patch) → ∀ p ∈ (Dg.takenC l r).1, P p
 | _, [], _ => fun p hp => (List.not_mem_nil hp).elim
 | l, c :: r, h => by
  unfold Dg.takenC
  split
  ·intro p hp
   rcases List.mem_cons.1 hp with rfl | hp
   ·exact h c List.mem_cons_self
   ·exact taken_pt _ r (fun x hx => h x (List.mem_cons_of_mem _ hx)) p hp
  ·exact taken_pt _ r (fun x hx => h x (List.mem_cons_of_mem _ hx))
theorem res_lens {l : List Dg.It} {LJ : List Dg.Cl} {T : List Dg.Pt} {S : List Dg.Sp} {g : Int} {CP : List (Dg.Sp × Dg.Sp)} (hl : LJ.length ≤ 40) (hT : resR l LJ = ((T, S), g)) (hC : (if (openR l LJ).2 = 0 then (Dg.clashC l (Dg.openL LJ), 0) else (([], (openR l LJ).2) : List (Dg.Sp × Dg.Sp) × Int)) = (CP, g)) (hp : ∀ x ∈ LJ, PtM x.patch) : T.length ≤ 40 ∧ S.length ≤ 40 ∧ CP.length ≤ 1600 ∧ (∀ p ∈ T, PtM p) := by
 have ho := Dg.openL_len LJ
 unfold resR at hT
 by_cases h : (openR l LJ).2 = 0
 ·rw [if_pos h] at hT hC
  injection hT with h1 _
  injection hC with h2 _
  have hc := Dg.taken_count l (Dg.openL LJ)
  have hq := taken_pt (P := PtM) l (Dg.openL LJ) (Dg.openL_all hp)
  rw [h1] at hc hq
  have hlen := outL_len l (prsL (Dg.openL LJ))
  rw [outL_all, h2] at hlen
  have h3 := prsL_len (Dg.openL LJ)
  have h4 := Nat.mul_le_mul (Nat.le_trans ho hl) (Nat.le_trans ho hl)
  dsimp only at hc hq
  exact ⟨by omega, by omega, by omega, hq⟩
 ·rw [if_neg h] at hT hC
  injection hT with h1 _
  injection h1 with h1 h1'
  injection hC with h2 _
  subst h1 h1' h2
  exact ⟨Nat.zero_le _, Nat.zero_le _, Nat.zero_le _, fun p hp => (List.not_mem_nil hp).elim⟩
theorem house_len {n : Nat} (h0 : 0 < n) (l : List Dg.Ac) (hl : l.length ≤ 20) : (houseC n l).length ≤ 20 := by
 obtain ⟨hU, hg⟩ := Dg.GoC.acts h0 l hl
 exact Nat.le_trans (Dg.listC_len hU.nd hU.ok) (Nat.le_trans (Dg.acts_ok n h0 l).few hl)
theorem few09_pt {l : List Dg.Ac} {ws : List Dg.Wy} (h : few09 l ws = true) (hw : ∀ a ∈ l, PtW a.patch) : l.length ≤ 20 ∧ ws.length ≤ 40 ∧ ∀ a ∈ l, PtM a.patch := by
 unfold few09 at h
 rw [Bool.and_eq_true, Bool.and_eq_true] at h
 refine ⟨of_decide_eq_true h.1, of_decide_eq_true h.2.1, fun a ha => ?_⟩
 have h3 := h.2.2
 unfold few21 at h3
 rw [Bool.and_eq_true, List.all_eq_true] at h3
 have h4 := h3.2 a.patch (List.mem_map.2 ⟨a, ha, rfl⟩)
 unfold smallP at h4
 rw [Bool.and_eq_true] at h4
 have h5 := of_decide_eq_true h4.1
 exact ⟨hw a ha, by omega, by omega⟩
theorem openR_fair (l : List Dg.It) {cs : List Dg.Cl} (h : cs.length ≤ 40) : openR l cs = if Dg.validC l = true then (Dg.openL cs, 0) else ([], 1) := by
 have := Dg.openL_len cs
 unfold openR
 cases hv : Dg.validC l with
 | false => rfl
 | true =>
  rw [if_neg (by decide), if_neg (by omega)]
  rfl
attribute [-go_sem] Instr.storeAt in
theorem law_amended (l : List Dg.It) (A : Option Addr) (n c : Nat) (hl : l.length = n) (hnc : n ≤ c) (hn : n ≤ 9223372036854775807) (hw : ∀ x ∈ l, ItW x) (s : Nat) (hs : s < 256)
  (l1 : List Dg.Ac) (A1 : Option Addr) (n1 c1 : Nat) (hl1 : l1.length = n1) (hz1 : n1 * 208 ≤ 140737488355328) (hw1 : ∀ a ∈ l1, AcW a) (hp1 : ∀ a ∈ l1, PtW a.patch) (l2 : List Dg.Ac) (A2 : Option Addr) (n2 c2 : Nat) (hl2 : l2.length = n2) (hz2 : n2 * 208 ≤ 140737488355328) (hw2 : ∀ a ∈ l2, AcW a) (hp2 : ∀ a ∈ l2, PtW a.patch)
  (ws1 : List Dg.Wy) (B1 : Option Addr) (m1 d1 : Nat) (hm1 : ws1.length = m1) (hv1 : ∀ a ∈ ws1, WyW a) (ws2 : List Dg.Wy) (B2 : Option Addr) (m2 d2 : Nat) (hm2 : ws2.length = m2) (hv2 : ∀ a ∈ ws2, WyW a)
  (w : World) (hI : Its w w.heap.size A l) (hR1 : Row1 acL w w.heap.size A1 l1) (hR2 : Row1 acL w w.heap.size A2 l2) (hV1 : Row1 wyL w w.heap.size B1 ws1) (hV2 : Row1 wyL w w.heap.size B2 ws2) (hmj : MaxJ w) :
  Calls Tryz.prog 3 #[.agg #[.slice A n c], .int .u8 (s : Int), .slice A1 n1 c1, .slice A2 n2 c2, .slice B1 m1 d1, .slice B2 m2 d2] w fun e w' => e = .returned (.bool true) ∧ Below w.heap.size w w' := by
 have hb0 := nwB w (.cells #[.slice A n c] 24)
 have r0 := heap_alloc_new w (.cells #[.slice A n c] 24)
 have HX := hide r0; have HB := hide hb0
 have HI := hide hI; have HR1 := hide hR1; have HR2 := hide hR2; have HV1 := hide hV1; have HV2 := hide hV2; have HMJ := hide hmj
 have HL := hide hl; have HW := hide hw; have HL1 := hide hl1; have HL2 := hide hl2; have HM1 := hide hm1; have HM2 := hide hm2
 have HW1 := hide hw1; have HW2 := hide hw2; have HP1 := hide hp1; have HP2 := hide hp2; have HG1 := hide hv1; have HG2 := hide hv2
 clear hb0 r0 hI hR1 hR2 hV1 hV2 hmj hl hw hl1 hl2 hm1 hm2 hw1 hw2 hp1 hp2 hv1 hv2
 go_enter func3, ntmps3
 go_wp2_with fail
 generalize w.alloc (.cells #[.slice A n c] 24) = w0 at *
 refine (chambers_of w0 (HMJ.out.next HB.out)).mono ?_
 rintro e w1 ⟨rfl, hb⟩
 have HX1 := hide (iNext HX.out hb); have HB1 := hide (bnext HB.out hb)
 clear hb HX HB
 have cx := iCells0 HX1.out
 obtain ⟨q1, hq1⟩ : ∃ q, fewC l 12 = q := ⟨_, rfl⟩
 obtain ⟨q2, hq2⟩ : ∃ q, few09 l1 ws1 = q := ⟨_, rfl⟩
 obtain ⟨q3, hq3⟩ : ∃ q, few09 l2 ws2 = q := ⟨_, rfl⟩
 have HF1 := hide (rfew_of l A n c 12 HL.out hn (by decide) w1 ((HI.out.below HB1.out).more HB1.out.size) q1 hq1)
 have HF2 := hide (fun (u : World) (hu : Below w.heap.size w u) => few09_of l1 A1 n1 c1 HL1.out hz1 B1 m1 d1 ws1 HM1.out u ((HR1.out.below hu).more hu.size) q2 hq2)
 have HF3 := hide (fun (u : World) (hu : Below w.heap.size w u) => few09_of l2 A2 n2 c2 HL2.out hz2 B2 m2 d2 ws2 HM2.out u ((HR2.out.below hu).more hu.size) q3 hq3)
 have HQ := hide (And.intro hq1 (And.intro hq2 hq3))
 clear hq1 hq2 hq3
 go_wp2_with fail
 refine HF1.out.mono ?_
 rintro e w2 ⟨rfl, hb⟩
 have HX2 := hide (iNext HX1.out hb); have HB2 := hide (bnext HB1.out hb)
 clear hb HX1 HB1 HF1 cx
 cases q1 with
 | false =>
  go_wp2
  go_ret
  exact ⟨rfl, HB2.out⟩
 | true =>
 go_wp2_with fail
 refine (HF2.out w2 HB2.out).mono ?_
 rintro e w3 ⟨rfl, hb⟩
 have HX3 := hide (iNext HX2.out hb); have HB3 := hide (bnext HB2.out hb)
 clear hb HX2 HB2 HF2
 cases q2 with
 | false =>
  go_wp2
  go_ret
  exact ⟨rfl, HB3.out⟩
 | true =>
 go_wp2_with fail
 refine (HF3.out w3 HB3.out).mono ?_
 rintro e w4 ⟨rfl, hb⟩
 have HX4 := hide (iNext HX3.out hb); have HB4 := hide (bnext HB3.out hb)
 clear hb HX3 HB3 HF3
 cases q3 with
 | false =>
  go_wp2
  go_ret
  exact ⟨rfl, HB4.out⟩
 | true =>
 obtain ⟨f1, f2, f3⟩ := few09_pt HQ.out.2.1 HP1.out
 obtain ⟨f4, f5, f6⟩ := few09_pt HQ.out.2.2 HP2.out
 have HFF := hide (And.intro f1 (And.intro f2 (And.intro f3 (And.intro f4 (And.intro f5 f6)))))
 clear f1 f2 f3 f4 f5 f6
 obtain ⟨N, hN⟩ : ∃ N, 1 + s % 4 = N := ⟨_, rfl⟩
 obtain ⟨M, hM⟩ : ∃ M, 1 + s / 4 % 4 = M := ⟨_, rfl⟩
 have eN : (1 : Int) + (s : Int) % 4 = (N : Int) := by omega
 have eM : (1 : Int) + (s : Int) / 4 % 4 = (M : Int) := by omega
 have hN1 : 0 < N ∧ N ≤ 4 ∧ 0 < M ∧ M ≤ 4 := by omega
 obtain ⟨g1, g2, g3, g4⟩ := hN1
 obtain ⟨LA, hLA⟩ : ∃ L, houseC N l1 = L := ⟨_, rfl⟩
 obtain ⟨LB, hLB⟩ : ∃ L, houseC M l2 = L := ⟨_, rfl⟩
 have hka : LA.length ≤ 20 ∧ ∀ x ∈ LA, PtM x.patch := by
  rw [← hLA]
  exact ⟨house_len g1 l1 HFF.out.1, house_pt HFF.out.2.2.1⟩
 have hkb : LB.length ≤ 20 ∧ ∀ x ∈ LB, PtM x.patch := by
  rw [← hLB]
  exact ⟨house_len g3 l2 HFF.out.2.2.2.1, house_pt HFF.out.2.2.2.2.2⟩
 have HOLAws1 := hide (fun (u : World) (hu : Below w.heap.size w u) => house_of N g1 g2 u l1 HFF.out.1 HW1.out A1 n1 c1 HL1.out (((HR1.out.below hu).more hu.size)) ws1 HFF.out.2.1 HG1.out B1 m1 d1 HM1.out (((HV1.out.below hu).more hu.size)))
 rw [hLA] at HOLAws1
 have HOLAws2 := hide (fun (u : World) (hu : Below w.heap.size w u) => house_of N g1 g2 u l1 HFF.out.1 HW1.out A1 n1 c1 HL1.out (((HR1.out.below hu).more hu.size)) ws2 HFF.out.2.2.2.2.1 HG2.out B2 m2 d2 HM2.out (((HV2.out.below hu).more hu.size)))
 rw [hLA] at HOLAws2
 have HOLBws2 := hide (fun (u : World) (hu : Below w.heap.size w u) => house_of M g3 g4 u l2 HFF.out.2.2.2.1 HW2.out A2 n2 c2 HL2.out (((HR2.out.below hu).more hu.size)) ws2 HFF.out.2.2.2.2.1 HG2.out B2 m2 d2 HM2.out (((HV2.out.below hu).more hu.size)))
 rw [hLB] at HOLBws2
 have HOLBws1 := hide (fun (u : World) (hu : Below w.heap.size w u) => house_of M g3 g4 u l2 HFF.out.2.2.2.1 HW2.out A2 n2 c2 HL2.out (((HR2.out.below hu).more hu.size)) ws1 HFF.out.2.1 HG1.out B1 m1 d1 HM1.out (((HV1.out.below hu).more hu.size)))
 rw [hLB] at HOLBws1
 have HKA := hide hka; have HKB := hide hkb
 have HFC := hide HQ.out.1
 clear hN hM hLA hLB hka hkb HQ
 go_wp2_with fail
 clear eN eM
 refine (HOLAws1.out w4 HB4.out).mono ?_
 rintro e w5 ⟨⟨va, rfl, hOa⟩, hb⟩
 have HX5 := hide (iNext HX4.out hb); have HB5 := hide (bnext HB4.out hb)
 have HA5 := hide (hOa.low HB4.out.size)
 clear hb hOa HX4 HB4 HOLAws1
 go_wp2_with fail
 refine (HOLAws2.out w5 HB5.out).mono ?_
 rintro e w6 ⟨⟨vb, rfl, hOb⟩, hb⟩
 have HX6 := hide (iNext HX5.out hb); have HB6 := hide (bnext HB5.out hb)
 have HA6 := hide (HA5.out.below hb); have HC6 := hide (hOb.low HB5.out.size)
 clear hb hOb HX5 HB5 HA5 HOLAws2
 go_wp2_with fail
 refine (HOLBws2.out w6 HB6.out).mono ?_
 rintro e w7 ⟨⟨vx, rfl, hOx⟩, hb⟩
 have HX7 := hide (iNext HX6.out hb); have HB7 := hide (bnext HB6.out hb)
 have HA7 := hide (HA6.out.below hb); have HC7 := hide (HC6.out.below hb); have HD7 := hide (hOx.low HB6.out.size)
 clear hb hOx HX6 HB6 HA6 HC6 HOLBws2
 go_wp2_with fail
 refine (HOLBws1.out w7 HB7.out).mono ?_
 rintro e w8 ⟨⟨vy, rfl, hOy⟩, hb⟩
 have HX8 := hide (iNext HX7.out hb); have HB8 := hide (bnext HB7.out hb)
 have HA8 := hide (HA7.out.below hb); have HC8 := hide (HC7.out.below hb); have HD8 := hide (HD7.out.below hb); have HE8 := hide (hOy.low HB7.out.size)
 clear hb hOy HX7 HB7 HA7 HC7 HD7 HOLBws1
 obtain ⟨Aa, ca, rfl, _, _⟩ := HA8.out.row
 obtain ⟨Ab, cb, rfl, _, _⟩ := HC8.out.row
 obtain ⟨Ax, cx, rfl, _, _⟩ := HD8.out.row
 obtain ⟨Ay, cy, rfl, _, _⟩ := HE8.out.row
 go_wp2_with fail
 refine (same36 _ _ LA _ _ w8 HA8.out HC8.out (by have := HKA.out.1; omega)).mono ?_
 rintro e w9 ⟨rfl, hb⟩
 have HX9 := hide (iNext HX8.out hb); have HB9 := hide (bnext HB8.out hb)
 have HA9 := hide (HA8.out.below hb); have HC9 := hide (HC8.out.below hb); have HD9 := hide (HD8.out.below hb); have HE9 := hide (HE8.out.below hb)
 clear hb HX8 HB8 HA8 HC8 HD8 HE8
 go_wp2_with fail
 refine (same36 _ _ LB _ _ w9 HD9.out HE9.out (by have := HKB.out.1; omega)).mono ?_
 rintro e w10 ⟨rfl, hb⟩
 have HX10 := hide (iNext HX9.out hb); have HB10 := hide (bnext HB9.out hb)
 have HA10 := hide (HA9.out.below hb); have HC10 := hide (HC9.out.below hb); have HD10 := hide (HD9.out.below hb); have HE10 := hide (HE9.out.below hb)
 clear hb HX9 HB9 HA9 HC9 HD9 HE9
 obtain ⟨LJ, E, hJ⟩ : ∃ LJ E, Dg.joinC (Dg.stabJ ltK) LA LB = (LJ, E) := ⟨_, _, rfl⟩
 have hJk := Dg.joinC_keeps (P := PtM) hJ ex_zero HKA.out.2 HKB.out.2
 have HJK := hide (show LJ.length ≤ 40 ∧ ∀ x ∈ LJ, PtM x.patch from ⟨by have := hJk.1; have := HKA.out.1; have := HKB.out.1; omega, hJk.2⟩)
 have HJ := hide hJ
 clear hJk hJ
 have hra := (own_rowA HA10.out).1
 have hrx := (own_rowA HD10.out).1
 go_wp2_with fail
 refine (joinR_of LA Aa LA.length ca rfl HKA.out.1 LB Ax LB.length cx rfl HKB.out.1 w10 hra hrx (LJ, E) HJ.out).mono ?_
 rintro e w11 ⟨vl, rfl, hOl, hb⟩
 have HX11 := hide (iNext HX10.out hb); have HB11 := hide (bnext HB10.out hb)
 have HC11 := hide (HC10.out.below hb); have HE11 := hide (HE10.out.below hb); have HL11 := hide (hOl.low (B' := w.heap.size) HB10.out.size)
 clear hb hOl HX10 HB10 HA10 HC10 HD10 HE10 hra hrx
 have hrb := (own_rowA HC11.out).1
 have hry := (own_rowA HE11.out).1
 go_wp2_with fail
 refine (joinR_of LA Ab LA.length cb rfl HKA.out.1 LB Ay LB.length cy rfl HKB.out.1 w11 hrb hry (LJ, E) HJ.out).mono ?_
 rintro e w12 ⟨vk, rfl, hOk, hb⟩
 have HX12 := hide (iNext HX11.out hb); have HB12 := hide (bnext HB11.out hb)
 have HL12 := hide (HL11.out.below hb); have HK12 := hide (hOk.low (B' := w.heap.size) HB11.out.size)
 clear hb hOk HX11 HB11 HC11 HE11 HL11 hrb hry
 have hEE : (E != E) = false := by rw [bne, beq_self_eq_true]; rfl
 obtain ⟨Al, cl, hvl, _, _⟩ := HL12.out.row
 obtain ⟨Ak, ck, hvk, _, _⟩ := HK12.out.row
 obtain ⟨kj, hkj⟩ : ∃ k, LJ.length = k := ⟨_, rfl⟩
 have HKJ := hide hkj
 rw [show ((LJ, E) : List Dg.Cl × Int).1.length = kj from hkj] at hvl hvk
 subst hvl hvk
 have hkj40 : kj ≤ 40 := by have := HJK.out.1; omega
 clear hkj
 go_wp2_with fail
 refine (same36 _ _ LJ _ _ w12 HL12.out HK12.out (by have := HJK.out.1; omega)).mono ?_
 rintro e w13 ⟨rfl, hb⟩
 have HX13 := hide (iNext HX12.out hb); have HB13 := hide (bnext HB12.out hb)
 have HL13 := hide (HL12.out.below hb); have HK13 := hide (HK12.out.below hb)
 clear hb HX12 HB12 HL12 HK12
 by_cases hE : E = 0
 case neg =>
  have hEb : (E != 0) = true := by rw [bne, beq_eq_false_iff_ne.2 hE]; rfl
  clear HL13 HK13 HJ HKJ HJK HX13
  go_wp2
  go_ret
  exact ⟨rfl, HB13.out⟩
 subst hE
 have hn12 : n ≤ 12 := by have := (fewC_spec HFC.out).1; have := HL.out; omega
 obtain ⟨vb, hvb⟩ : ∃ vb, Dg.validC l = vb := ⟨_, rfl⟩
 have hop := openR_fair l (cs := LJ) (by have := HJK.out.1; omega)
 rw [hvb] at hop
 obtain ⟨T, S, g, hT⟩ : ∃ T S g, resR l LJ = ((T, S), g) := ⟨_, _, _, rfl⟩
 obtain ⟨CP, hCP⟩ : ∃ CP, (if (openR l LJ).2 = 0 then (Dg.clashC l (Dg.openL LJ), 0) else (([], (openR l LJ).2) : List (Dg.Sp × Dg.Sp) × Int)) = (CP, g) := by
  unfold resR at hT
  rcases Classical.em ((openR l LJ).2 = 0) with h | h
  ·rw [if_pos h] at hT ⊢
   injection hT with _ hg
   exact ⟨_, by rw [← hg]⟩
  ·rw [if_neg h] at hT ⊢
   injection hT with _ hg
   exact ⟨_, by rw [← hg]⟩
 have HRS := hide (fun (u : World) (hu : Below w.heap.size w u) (AC : Option Addr) (cm : Nat) (hr : Row1 clL u u.heap.size AC LJ) => resR_of l A n c HL.out hnc (by omega) HW.out LJ AC kj cm HKJ.out (by omega) HJK.out.2 u ((HI.out.below hu).more hu.size) hr (HMJ.out.next hu) ((T, S), g) hT)
 have HCS := hide (fun (u : World) (hu : Below w.heap.size w u) (AC : Option Addr) (cm : Nat) (hr : Row1 clL u u.heap.size AC LJ) => clashR_of l A n c HL.out hnc (by omega) HW.out LJ AC kj cm HKJ.out (by omega) HJK.out.2 u ((HI.out.below hu).more hu.size) hr (HMJ.out.next hu) (CP, g) hCP)
 have hlens : T.length ≤ 40 ∧ S.length ≤ 40 ∧ CP.length ≤ 1600 ∧ (∀ p ∈ T, PtM p) := res_lens HJK.out.1 hT hCP HJK.out.2
 have HLN := hide hlens
 have HOP := hide hop; have HT := hide hT; have HVB := hide hvb
 clear hop hT hCP hvb hlens HJ
 have cx := iCells0 HX13.out
 go_wp2_with fail
 refine (HRS.out w13 HB13.out Al cl (own_rowA HL13.out).1).mono ?_
 rintro e w14 ⟨vt, vs, rfl, hOt, hOs, hb⟩
 have HX14 := hide (iNext HX13.out hb); have HB14 := hide (bnext HB13.out hb)
 have HL14 := hide (HL13.out.below hb); have HK14 := hide (HK13.out.below hb); have HT14 := hide (hOt.low (B' := w.heap.size) HB13.out.size); have HS14 := hide (hOs.low (B' := w.heap.size) HB13.out.size)
 clear hb hOt hOs HX13 HB13 HL13 HK13 cx
 have cx := iCells0 HX14.out
 go_wp2_with fail
 refine (HRS.out w14 HB14.out Ak ck (own_rowA HK14.out).1).mono ?_
 rintro e w15 ⟨vt2, vs2, rfl, hOt, hOs, hb⟩
 have HX15 := hide (iNext HX14.out hb); have HB15 := hide (bnext HB14.out hb)
 have HL15 := hide (HL14.out.below hb); have HK15 := hide (HK14.out.below hb); have HT15 := hide (HT14.out.below hb); have HS15 := hide (HS14.out.below hb)
 have HU15 := hide (hOt.low (B' := w.heap.size) HB14.out.size); have HV15 := hide (hOs.low (B' := w.heap.size) HB14.out.size)
 clear hb hOt hOs HX14 HB14 HL14 HK14 HT14 HS14 cx HRS
 have cx := iCells0 HX15.out
 go_wp2_with fail
 refine (HCS.out w15 HB15.out Al cl (own_rowA HL15.out).1).mono ?_
 rintro e w16 ⟨vc, rfl, hOc, hb⟩
 have HX16 := hide (iNext HX15.out hb); have HB16 := hide (bnext HB15.out hb)
 have HL16 := hide (HL15.out.below hb); have HK16 := hide (HK15.out.below hb); have HT16 := hide (HT15.out.below hb); have HS16 := hide (HS15.out.below hb); have HU16 := hide (HU15.out.below hb); have HV16 := hide (HV15.out.below hb)
 have HP16 := hide (hOc.low (B' := w.heap.size) HB15.out.size)
 clear hb hOc HX15 HB15 HL15 HK15 HT15 HS15 HU15 HV15 cx
 have cx := iCells0 HX16.out
 go_wp2_with fail
 refine (HCS.out w16 HB16.out Ak ck (own_rowA HK16.out).1).mono ?_
 rintro e w17 ⟨vd, rfl, hOc, hb⟩
 have HX17 := hide (iNext HX16.out hb); have HB17 := hide (bnext HB16.out hb)
 have HL17 := hide (HL16.out.below hb); have HT17 := hide (HT16.out.below hb); have HS17 := hide (HS16.out.below hb); have HU17 := hide (HU16.out.below hb); have HV17 := hide (HV16.out.below hb); have HP17 := hide (HP16.out.below hb)
 have HQ17 := hide (hOc.low (B' := w.heap.size) HB16.out.size)
 clear hb hOc HX16 HB16 HL16 HK16 HT16 HS16 HU16 HV16 HP16 cx HCS
 have hgg : (g != g) = false := by rw [bne, beq_self_eq_true]; rfl
 go_wp2_with fail
 refine (same38p vc vd CP _ _ w17 HP17.out HQ17.out (by have := HLN.out.2.2.1; omega)).mono ?_
 rintro e w18 ⟨rfl, hb⟩
 have HX18 := hide (iNext HX17.out hb); have HB18 := hide (bnext HB17.out hb)
 have HL18 := hide (HL17.out.below hb); have HT18 := hide (HT17.out.below hb); have HS18 := hide (HS17.out.below hb); have HU18 := hide (HU17.out.below hb); have HV18 := hide (HV17.out.below hb)
 clear hb HX17 HB17 HL17 HT17 HS17 HU17 HV17 HP17 HQ17
 go_wp2_with fail
 refine (same38s vs vs2 S _ _ w18 HS18.out HV18.out (by have := HLN.out.2.1; omega)).mono ?_
 rintro e w19 ⟨rfl, hb⟩
 have HX19 := hide (iNext HX18.out hb); have HB19 := hide (bnext HB18.out hb)
 have HL19 := hide (HL18.out.below hb); have HT19 := hide (HT18.out.below hb); have HS19 := hide (HS18.out.below hb); have HU19 := hide (HU18.out.below hb)
 clear hb HX18 HB18 HL18 HT18 HS18 HU18 HV18
 go_wp2_with fail
 refine (same21p vt vt2 T _ _ w19 HT19.out HU19.out (by have := HLN.out.1; omega)).mono ?_
 rintro e w20 ⟨rfl, hb⟩
 have HX20 := hide (iNext HX19.out hb); have HB20 := hide (bnext HB19.out hb)
 have HL20 := hide (HL19.out.below hb); have HT20 := hide (HT19.out.below hb); have HS20 := hide (HS19.out.below hb)
 clear hb HX19 HB19 HL19 HT19 HS19 HU19
 cases vb with
 | false =>
  have hg : g = 1 := by
   have h1 := HT.out
   have h2 := HOP.out
   rw [if_neg (by decide)] at h2
   unfold resR at h1
   rw [h2, if_neg (by decide)] at h1
   injection h1 with _ h1
   exact h1.symm
  subst hg
  have cx := iCells0 HX20.out
  clear HL20 HT20 HS20
  go_wp2_with fail
  refine (Code.valid_of l A n c HL.out HW.out (by omega) w20 ((HI.out.below HB20.out).more HB20.out.size) false HVB.out).mono ?_
  rintro e w21 ⟨rfl, hb⟩
  have HB21 := hide (bnext HB20.out hb)
  clear hb HB20 HX20 cx
  go_wp2
  go_ret
  exact ⟨rfl, HB21.out⟩
 | true =>
 have hop2 := HOP.out
 rw [if_pos rfl] at hop2
 have hT2 := HT.out
 unfold resR at hT2
 rw [hop2, if_pos rfl] at hT2
 injection hT2 with hTS hg
 subst hg
 have HTS := hide hTS
 clear hop2 hTS
 have cx := iCells0 HX20.out
 go_wp2_with fail
 go_loopw [38, 39] (fun ov iv wr => ∃ k : Nat, k ≤ kj ∧ iv = .int .i64 k ∧ ov = .int .i64 ((Dg.openL (LJ.take k)).length : Nat) ∧ wr = w20) (fun _ iv _ => kj - (intOf iv).toNat)
 case atStart => exact ⟨0, Nat.zero_le _, rfl, rfl, rfl⟩
 case round =>
  obtain ⟨k, hk, rfl, rfl, rfl⟩ := hrel
  by_cases hlt : k < kj
  ·have hkl : k < LJ.length := by rw [HKJ.out]; exact hlt
   obtain ⟨gb, rfl, _, hrg⟩ := own_rangeL HL20.out hkl
   obtain ⟨x, hx⟩ : ∃ x, LJ[k] = x := ⟨_, rfl⟩
   have hnx := open_next hkl
   rw [hx] at hnx hrg
   have c19 : wr.cell? ⟨gb, k * 20 + 19, none⟩ = some (.bool x.gone) := hrg 19 _ rfl
   have hol := Dg.openL_len (LJ.take k)
   rw [List.length_take] at hol
   obtain ⟨ok, hok⟩ : ∃ ok, (Dg.openL (LJ.take k)).length = ok := ⟨_, rfl⟩
   have i0 : (0 : Int) ≤ (k : Int) := by omega
   have i1 : (k : Int) < (kj : Int) := by omega
   rw [hok] at hol ⊢
   have HNX := hide hnx; have HOK := hide hok
   clear hrg hnx hok hx
   obtain ⟨bg, hbg⟩ : ∃ bg, x.gone = bg := ⟨_, rfl⟩
   rw [hbg] at c19 HNX
   clear hbg
   cases bg with
   | true =>
    have hnew : (Dg.openL (LJ.take (k + 1))).length = ok := by rw [HNX.out, if_pos rfl]; exact HOK.out
    have HNW := hide hnew
    clear hnew
    go_wp2_with fail
    go_roundw
    case rel => exact ⟨k + 1, by omega, by go_num, by rw [HNW.out], by first | trivial | rfl⟩
    case measure => first | (simp [intOf]; done) | (simp [intOf]; omega)
   | false =>
    have hnew : (Dg.openL (LJ.take (k + 1))).length = ok + 1 := by rw [HNX.out, if_neg (by decide), List.length_append, HOK.out]; rfl
    have HNW := hide hnew
    clear hnew
    go_wp2_with fail
    go_roundw
    case rel => exact ⟨k + 1, by omega, by go_num, by rw [HNW.out]; go_num, by first | trivial | rfl⟩
    case measure => first | (simp [intOf]; done) | (simp [intOf]; omega)
  ·obtain rfl : k = kj := by omega
   rw [List.take_of_length_le (Nat.le_of_eq HKJ.out)]
   obtain ⟨At, ct, rfl, _, _⟩ := HT20.out.row
   obtain ⟨As, cs, rfl, _, _⟩ := HS20.out.row
   have hcount := Dg.taken_count l (Dg.openL LJ)
   have hall := Dg.taken_all l (Dg.openL LJ)
   rw [HTS.out] at hcount hall
   have hw0 : (Dg.allW l T).2 = 0 := by
    unfold Dg.allW
    rw [if_neg (by rw [HVB.out]; decide)]
    exact hall
   have HA := hide (all_any l A n c HL.out hnc (by omega) HW.out T At T.length ct rfl (by have := HLN.out.1; omega) HLN.out.2.2.2 wr ((HI.out.below HB20.out).more HB20.out.size) (own_rowA HT20.out).1 (HMJ.out.next HB20.out))
   rw [hw0] at HA
   obtain ⟨nT, hnT⟩ : ∃ n, T.length = n := ⟨_, rfl⟩
   obtain ⟨nS, hnS⟩ : ∃ n, S.length = n := ⟨_, rfl⟩
   obtain ⟨nO, hnO⟩ : ∃ n, (Dg.openL LJ).length = n := ⟨_, rfl⟩
   rw [hnT] at HA
   have hnn : nT + nS = nO := by rw [← hnT, ← hnS, ← hnO]; exact hcount
   have hnb : nT ≤ 40 ∧ nS ≤ 40 := by have := HLN.out.1; have := HLN.out.2.1; omega
   rw [hnT, hnS, hnO]
   obtain ⟨hnb1, hnb2⟩ := hnb
   have heq : (nT : Int) + (nS : Int) = (nO : Int) := by omega
   clear hcount hall hw0 hnT hnS hnO HT20 HS20 HL20
   go_wp2_with fail
   refine HA.out.mono ?_
   rintro e w21 ⟨v', j, rfl, hO, hb⟩
   obtain ⟨_, _, hv', _, _⟩ := hO.row
   have hst := store_new (ty := 24) (T := 24) w21 Rq3 #[v'] infoCode1 rfl (by subst hv'; simp [Value.oneCell'])
   have HB21 := hide (bnext (bnext HB20.out hb) (nwB w21 (.cells #[v'] 24)))
   clear hv' hO hb HB20 HX20 HA cx
   go_wp2
   go_ret
   exact ⟨rfl, HB21.out⟩
end Go.Proofs.YtkpbofnnnihbeaaGreat
namespace Go.Proofs.YtkpbofnnnihbeaaGreat
open Go Go.RowKit Go.ChangeShapes Go.WideShapes Go.ChangeAt Rw Tryz
section
variable {H : Type} {enc : TypeId × Value → H} {P : Program}
theorem trodAll_later (hl : laidOutB P = true) {W W' : World} (hb : Below W.heap.size W W') : ∀ {ts : List TypeId} {vs : List Value} {ds : List (DataW H)} {ps : List MemPlace},
  (∀ t ∈ ts, P.readableRec t = true ∧ t < P.types.size) → (∀ x ∈ ps, x.block < W.heap.size) → DataW.TrodAll enc P W 0 (fun _ => true) true ts vs ds ps → DataW.TrodAll enc P W' 0 (fun b => decide (b < W.heap.size)) true ts vs ds ps
 | [], vs, ds, ps, _, _, h => by
  obtain ⟨rfl, rfl, rfl⟩ := trodAll_nil h
  exact trodAll_mk0
 | t :: ts, vs, ds, ps, hts, hlt, h => by
  obtain ⟨v, vs', d, ds', p, q, rfl, rfl, rfl, hv, hr⟩ := trodAll_cons h
  obtain ⟨h1, h2⟩ := hts t (List.mem_cons_self ..)
  exact trodAll_cons_mk (Below.trod hl h1 h2 hv hb fun x hx => hlt x (List.mem_append_left _ hx))
   (trodAll_later hl hb (fun t' ht' => hts t' (List.mem_cons_of_mem _ ht')) (fun x hx => hlt x (List.mem_append_right _ hx)) hr)
theorem law_post (hl : laidOutB P = true) {f : Func} {s : ChangeSpec} (hv : s.vars = []) {tb : TypeId} (hrt : f.resultTypes = #[tb]) (htb : P.underlying tb = some .bool)
  (hts : (f.params.toList.all fun t => P.readableRec t && decide (t < P.types.size)) = true) {W W' : World} {args : Array Value} {ds gs : List (DataW H)} {before : List MemPlace}
  (hW : DataW.Whole enc P f.params.toList s.vars false W args.toList ds gs before) (hfn : s.fn H (ds ++ gs) = { results := [.lit (.bool true)], args := ds }) (hb : Below W.heap.size W W') :
  s.post enc P f false true false false W args (.bool true) W' := by
 have hlt : ∀ p ∈ before, p.block < W.heap.size := fun p hp => hW.lt p hp
 have hW' := hW
 obtain ⟨p, q, hA, hV, rfl, _, _⟩ := hW
 refine ⟨ds, gs, p ++ q, [], p, [], hW', ?_, ?_, ?_, hb.frame _, fun h => by cases h⟩
 ·rw [hfn, hrt]
  exact trodAll_mk1 (shut_bool htb true)
 ·rw [hfn]
  exact trodAll_later hl hb (fun t ht => by have := List.all_eq_true.1 hts t ht; simpa using this) (fun x hx => hlt x (List.mem_append_left _ hx)) hA
 ·rw [hfn, hv]
  exact rfl
end
end Go.Proofs.YtkpbofnnnihbeaaGreat
namespace Go.Proofs.YtkpbofnnnihbeaaGreat
open Go Go.RowKit Go.ChangeShapes Go.WideShapes Go.ChangeAt Go.WideMaps Go.WideElems Rw Tryz
section
open Go.ChangeMaps (open_string)
section
variable {H : Type} {enc : TypeId × Value → H}
theorem addr_of_cell {w : World} {a : Addr} {v : Value} (h : w.cell? a = some v) : a = ⟨a.block, a.off, none⟩ ∧ a.block < w.heap.size := by
 refine ⟨?_, block_lt_of_cell h⟩
 obtain ⟨b, off, sp⟩ := a
 cases sp with
 | none => rfl
 | some k =>
  exfalso
  unfold World.cell? at h
  simp at h
  split at h <;> simp at h
theorem add_plain (b off j : Nat) : (⟨b, off, none⟩ : Addr).add j = ⟨b, off + j, none⟩ := by
 unfold Addr.add
 by_cases h : j = 0
 ·rw [if_pos h, h, Nat.add_zero]
 ·rw [if_neg h]
end
end
end Go.Proofs.YtkpbofnnnihbeaaGreat
namespace Go.Proofs.YtkpbofnnnihbeaaGreat
open Go Go.RowKit Go.ChangeShapes Go.WideShapes Go.ChangeAt Go.WideMaps Go.WideElems Go.Joins Rw Tryz
section
variable {H : Type} {enc : TypeId × Value → H}
theorem cellsStr : Tryz.prog.cellsOf 9 = 1 := by kernel_rfl
end
end Go.Proofs.YtkpbofnnnihbeaaGreat
namespace Go.Proofs.YtkpbofnnnihbeaaGreat
open Go Go.RowKit Go.ChangeShapes Go.WideShapes Go.ChangeAt Go.WideMaps Go.WideElems Go.Joins Go.Deep Rw Tryz
section
variable {H : Type} {enc : TypeId × Value → H}
theorem cIntC : Tryz.prog.cellsOf 3 = 1 := by kernel_rfl
theorem cBoolC : Tryz.prog.cellsOf 4 = 1 := by kernel_rfl
theorem cItem : Tryz.prog.cellsOf 51 = 7 := by kernel_rfl
theorem cItems : Tryz.prog.cellsOf 22 = 1 := by kernel_rfl
theorem cCode : Tryz.prog.cellsOf 24 = 1 := by kernel_rfl
theorem trod_item {W : World} {k : Nat} {cs : List Value} {x : DataW H × List MemPlace} (h : DataW.trod enc Tryz.prog W 0 (fun _ => true) true k 51 cs = some x) :
  ∃ v : Dg.It, cs = (itV v).toList ∧ ItW v := by
 obtain ⟨xs, n, _, _, hlen, hxl, hf⟩ := DataW.trod_struct underlying51 h
 rw [cItem] at hlen
 match cs, hlen with
 | [c0, c1, c2, c3, c4, c5, c6], _ =>
  match xs, hxl with
  | [y0, y1, y2, y3, y4, y5, y6], _ =>
   have f0 : DataW.trod enc Tryz.prog W 0 (fun _ => true) true n 3 [c0] = some y0 := by simpa [cIntC] using hf 0 _ rfl
   have f1 : DataW.trod enc Tryz.prog W 0 (fun _ => true) true n 9 [c1] = some y1 := by simpa [cellsStr] using hf 1 _ rfl
   have f2 : DataW.trod enc Tryz.prog W 0 (fun _ => true) true n 9 [c2] = some y2 := by simpa [cellsStr] using hf 2 _ rfl
   have f3 : DataW.trod enc Tryz.prog W 0 (fun _ => true) true n 9 [c3] = some y3 := by simpa [cellsStr] using hf 3 _ rfl
   have f4 : DataW.trod enc Tryz.prog W 0 (fun _ => true) true n 9 [c4] = some y4 := by simpa [cellsStr] using hf 4 _ rfl
   have f5 : DataW.trod enc Tryz.prog W 0 (fun _ => true) true n 9 [c5] = some y5 := by simpa [cellsStr] using hf 5 _ rfl
   have f6 : DataW.trod enc Tryz.prog W 0 (fun _ => true) true n 4 [c6] = some y6 := by simpa [cBoolC] using hf 6 _ rfl
   obtain ⟨m, e0, _, w0⟩ := DataW.trod_int underlying3 f0
   obtain ⟨b1, e1, _, w1⟩ := DataW.trod_string underlying9 f1
   obtain ⟨b2, e2, _, w2⟩ := DataW.trod_string underlying9 f2
   obtain ⟨b3, e3, _, w3⟩ := DataW.trod_string underlying9 f3
   obtain ⟨b4, e4, _, w4⟩ := DataW.trod_string underlying9 f4
   obtain ⟨b5, e5, _, w5⟩ := DataW.trod_string underlying9 f5
   obtain ⟨y, e6, _⟩ := DataW.trod_bool underlying4 f6
   simp only [List.cons.injEq, and_true] at e0 e1 e2 e3 e4 e5 e6
   subst e0 e1 e2 e3 e4 e5 e6
   obtain ⟨m0, m1⟩ := bounds_i64 w0
   exact ⟨⟨m, b1, b2, b3, b4, b5, y⟩, rfl, ⟨m0, m1, w1, w2, w3, w4, w5⟩⟩
theorem field_items {W : World} {v : Value} {n : Nat} {y : DataW H × List MemPlace} (hf : DataW.trod enc Tryz.prog W 0 (fun _ => true) true n 22 [v] = some y) :
  ∃ (A : Option Addr) (c : Nat) (l : List Dg.It), v = .slice A l.length c ∧ l.length ≤ 9223372036854775807 ∧ (∀ x ∈ l, ItW x) ∧ Its W W.heap.size A l ∧ l.length ≤ c := by
 rcases open_slice underlying22 hf with ⟨hcs, _⟩ | ⟨a, len, cap, m, k, D, Pl, hcs, _, hl, hm, hmm, _, hi⟩
 ·simp only [List.cons.injEq, and_true] at hcs
  subst hcs
  exact ⟨none, 0, [], rfl, by simp, by simp, Its.nil _ _ _, by simp⟩
 ·simp only [List.cons.injEq, and_true] at hcs
  subst hcs
  simp only [if_true] at hmm
  unfold maxLen at hm
  rw [cItem] at hi
  have h1 : ∀ i, ∃ v : Dg.It, i < len → ItW v ∧ ∀ (j : Nat) (u : Value), (itV v)[j]? = some u → W.cell? ((a.add (i * 7)).add j) = some u := fun i => by
   by_cases hil : i < len
   ·obtain ⟨cs', hc, ht⟩ := hi i (by omega)
    obtain ⟨v, hcs, hw⟩ := trod_item ht
    obtain ⟨_, hcl, hat⟩ := World.cells?_some hc
    refine ⟨v, fun _ => ⟨hw, fun j u hj => ?_⟩⟩
    have hj7 : j < 7 := (Array.getElem?_eq_some_iff.1 hj).1
    rw [hat j hj7, hcs, Array.getElem?_toList]
    exact hj
   ·exact ⟨⟨0, ⟨#[]⟩, ⟨#[]⟩, ⟨#[]⟩, ⟨#[]⟩, ⟨#[]⟩, false⟩, fun h => absurd h hil⟩
  obtain ⟨f, hfv⟩ := Classical.axiomOfChoice h1
  have hlen : ((List.range len).map f).length = len := by rw [List.length_map, List.length_range]
  refine ⟨some a, cap, (List.range len).map f, by rw [hlen], by rw [hlen]; omega, fun v hv => ?_, ⟨fun h0 => ?_⟩, by rw [hlen]; exact hl⟩
  ·obtain ⟨i, hir, rfl⟩ := List.mem_map.1 hv
   exact (hfv i (List.mem_range.1 hir)).1
  ·rw [hlen] at h0
   obtain ⟨_, hc0⟩ := hfv 0 h0
   have h00 : (a.add (0 * 7)).add 0 = a := by unfold Addr.add; simp
   obtain ⟨e, hb⟩ := addr_of_cell (h00 ▸ hc0 0 _ rfl)
   refine ⟨a.block, a.off, by rw [← e], hb, fun j v hj i u hu => ?_⟩
   have hjl : j < len := by
    have := (List.getElem?_eq_some_iff.1 hj).1
    rw [hlen] at this; exact this
   rw [List.getElem?_map, List.getElem?_range hjl] at hj
   obtain rfl : f j = v := by simpa using hj
   obtain ⟨_, hc⟩ := hfv j hjl
   have e2 : (a.add (j * 7)).add i = ⟨a.block, a.off + j * 7 + i, none⟩ := by
    rw [e]
    rw [add_plain, add_plain]
   rw [← e2]
   exact hc i u hu
theorem open_code {W : World} {v : Value} {d : DataW H} {p : List MemPlace} {base : Nat} (hv : Value.okWide Tryz.prog W .any base 24 v) (h : DataW.Trod enc Tryz.prog W 0 (fun _ => true) true 24 v d p) :
  ∃ (A : Option Addr) (c : Nat) (l : List Dg.It), v = .agg #[.slice A l.length c] ∧ l.length ≤ 9223372036854775807 ∧ (∀ x ∈ l, ItW x) ∧ Its W W.heap.size A l ∧ l.length ≤ c := by
 obtain ⟨cs, rfl, hsz⟩ := okWide_struct underlying24 hv
 obtain ⟨l⟩ := cs
 match l, hsz.trans cCode with
 | [c0], _ =>
  obtain ⟨fuel, hf0⟩ := h
  obtain ⟨xs, n, _, _, _, hxl, hf⟩ := DataW.trod_struct underlying24 hf0
  match xs, hxl with
  | [y0], _ =>
   have f0 : DataW.trod enc Tryz.prog W 0 (fun _ => true) true n 22 [c0] = some y0 := by simpa [Value.cells, cItems] using hf 0 _ rfl
   obtain ⟨A, c, l, rfl, a1, a2, a3, a4⟩ := field_items f0
   exact ⟨A, c, l, rfl, a1, a2, a3, a4⟩
end
section
variable {H : Type} {enc : TypeId × Value → H}
theorem cU8a : Tryz.prog.cellsOf 5 = 1 := by kernel_rfl
theorem cPt : Tryz.prog.cellsOf 53 = 15 := by kernel_rfl
theorem cAct : Tryz.prog.cellsOf 61 = 18 := by kernel_rfl
theorem cWay : Tryz.prog.cellsOf 119 = 4 := by kernel_rfl
theorem bytesAct : Tryz.prog.bytesOf 61 = 216 := by kernel_rfl
theorem trod_patch {W : World} {k : Nat} {cs : List Value} {x : DataW H × List MemPlace} (h : DataW.trod enc Tryz.prog W 0 (fun _ => true) true k 53 cs = some x) : ∃ v : Dg.Pt, cs = (ptC v).toList ∧ PtW v := by
 obtain ⟨xs, n, _, _, hlen, hxl, hf⟩ := DataW.trod_struct underlying53 h
 rw [cPt] at hlen
 match cs, hlen with
 | [c0, c1, c2, c3, c4, c5, c6, c7, c8, c9, c10, c11, c12, c13, c14], _ =>
  match xs, hxl with
  | [y0, y1, y2, y3, y4, y5, y6, y7, y8], _ =>
   have f0 : DataW.trod enc Tryz.prog W 0 (fun _ => true) true n 3 [c0] = some y0 := by simpa [cIntC, cellsStr, cItem] using hf 0 _ rfl
   have f1 : DataW.trod enc Tryz.prog W 0 (fun _ => true) true n 9 [c1] = some y1 := by simpa [cIntC, cellsStr, cItem] using hf 1 _ rfl
   have f2 : DataW.trod enc Tryz.prog W 0 (fun _ => true) true n 9 [c2] = some y2 := by simpa [cIntC, cellsStr, cItem] using hf 2 _ rfl
   have f3 : DataW.trod enc Tryz.prog W 0 (fun _ => true) true n 9 [c3] = some y3 := by simpa [cIntC, cellsStr, cItem] using hf 3 _ rfl
   have f4 : DataW.trod enc Tryz.prog W 0 (fun _ => true) true n 9 [c4] = some y4 := by simpa [cIntC, cellsStr, cItem] using hf 4 _ rfl
   have f5 : DataW.trod enc Tryz.prog W 0 (fun _ => true) true n 51 [c5, c6, c7, c8, c9, c10, c11] = some y5 := by simpa [cIntC, cellsStr, cItem] using hf 5 _ rfl
   have f6 : DataW.trod enc Tryz.prog W 0 (fun _ => true) true n 3 [c12] = some y6 := by simpa [cIntC, cellsStr, cItem] using hf 6 _ rfl
   have f7 : DataW.trod enc Tryz.prog W 0 (fun _ => true) true n 9 [c13] = some y7 := by simpa [cIntC, cellsStr, cItem] using hf 7 _ rfl
   have f8 : DataW.trod enc Tryz.prog W 0 (fun _ => true) true n 9 [c14] = some y8 := by simpa [cIntC, cellsStr, cItem] using hf 8 _ rfl
   obtain ⟨m, e0, _, w0⟩ := DataW.trod_int underlying3 f0
   obtain ⟨b1, e1, _, w1⟩ := DataW.trod_string underlying9 f1
   obtain ⟨b2, e2, _, w2⟩ := DataW.trod_string underlying9 f2
   obtain ⟨b3, e3, _, w3⟩ := DataW.trod_string underlying9 f3
   obtain ⟨b4, e4, _, w4⟩ := DataW.trod_string underlying9 f4
   obtain ⟨it, e5, hit⟩ := trod_item f5
   obtain ⟨m6, e6, _, w6⟩ := DataW.trod_int underlying3 f6
   obtain ⟨b7, e7, _, _⟩ := DataW.trod_string underlying9 f7
   obtain ⟨b8, e8, _, _⟩ := DataW.trod_string underlying9 f8
   simp only [itV, List.cons.injEq, and_true] at e0 e1 e2 e3 e4 e5 e6 e7 e8
   obtain ⟨rfl, rfl, rfl, rfl, rfl, rfl, rfl⟩ := e5
   subst e0 e1 e2 e3 e4 e6 e7 e8
   obtain ⟨k0, k1⟩ := bounds_i64 w0
   obtain ⟨l0, l1⟩ := bounds_i64 w6
   exact ⟨⟨m, b1, b2, b3, b4, it, m6, b7, b8⟩, rfl, ⟨k0, k1, l0, l1, hit, w1, w2, w3, w4⟩⟩
theorem u8_nat {m : Int} (h : 0 ≤ m ∧ m ≤ 255) : ((m.toNat : Nat) : Int) = m ∧ m.toNat < 256 := by omega
theorem trod_act {W : World} {k : Nat} {cs : List Value} {x : DataW H × List MemPlace} (h : DataW.trod enc Tryz.prog W 0 (fun _ => true) true k 61 cs = some x) : ∃ v : Dg.Ac, cs = acL.C v ∧ (AcW v ∧ PtW v.patch) := by
 obtain ⟨xs, n, _, _, hlen, hxl, hf⟩ := DataW.trod_struct underlying61 h
 rw [cAct] at hlen
 match cs, hlen with
 | c0 :: c1 :: c2 :: cp, hlen =>
  match xs, hxl with
  | [y0, y1, y2, y3], _ =>
   have hcp : cp.length = 15 := by simpa using hlen
   have f0 : DataW.trod enc Tryz.prog W 0 (fun _ => true) true n 5 [c0] = some y0 := by simpa [cU8a, cBoolC, cPt] using hf 0 _ rfl
   have f1 : DataW.trod enc Tryz.prog W 0 (fun _ => true) true n 5 [c1] = some y1 := by simpa [cU8a, cBoolC, cPt] using hf 1 _ rfl
   have f2 : DataW.trod enc Tryz.prog W 0 (fun _ => true) true n 4 [c2] = some y2 := by simpa [cU8a, cBoolC, cPt] using hf 2 _ rfl
   have f3 : DataW.trod enc Tryz.prog W 0 (fun _ => true) true n 53 cp = some y3 := by
    have := hf 3 _ rfl
    simp [cU8a, cBoolC, cPt] at this
    rwa [List.take_of_length_le (by omega)] at this
   obtain ⟨m0, e0, _, w0⟩ := DataW.trod_int underlying5 f0
   obtain ⟨m1, e1, _, w1⟩ := DataW.trod_int underlying5 f1
   obtain ⟨b2, e2, _⟩ := DataW.trod_bool underlying4 f2
   obtain ⟨p, e3, hp⟩ := trod_patch f3
   simp only [List.cons.injEq, and_true] at e0 e1 e2
   subst e0 e1 e2 e3
   obtain ⟨a0, a1⟩ := u8_nat (bounds_u8 w0)
   obtain ⟨a2, a3⟩ := u8_nat (bounds_u8 w1)
   exact ⟨⟨m0.toNat, m1.toNat, b2, p⟩, by
    show _ = (.int .u8 ((m0.toNat : Nat) : Int) :: .int .u8 ((m1.toNat : Nat) : Int) :: .bool b2 :: (ptC p).toList : List Value)
    rw [a0, a2], ⟨⟨a1, a3⟩, hp⟩⟩
theorem trod_way {W : World} {k : Nat} {cs : List Value} {x : DataW H × List MemPlace} (h : DataW.trod enc Tryz.prog W 0 (fun _ => true) true k 119 cs = some x) : ∃ v : Dg.Wy, cs = wyL.C v ∧ WyW v := by
 obtain ⟨xs, n, _, _, hlen, hxl, hf⟩ := DataW.trod_struct underlying119 h
 rw [cWay] at hlen
 match cs, hlen with
 | [c0, c1, c2, c3], _ =>
  match xs, hxl with
  | [y0, y1, y2, y3], _ =>
   have f0 : DataW.trod enc Tryz.prog W 0 (fun _ => true) true n 5 [c0] = some y0 := by simpa [cU8a, cBoolC] using hf 0 _ rfl
   have f1 : DataW.trod enc Tryz.prog W 0 (fun _ => true) true n 5 [c1] = some y1 := by simpa [cU8a, cBoolC] using hf 1 _ rfl
   have f2 : DataW.trod enc Tryz.prog W 0 (fun _ => true) true n 4 [c2] = some y2 := by simpa [cU8a, cBoolC] using hf 2 _ rfl
   have f3 : DataW.trod enc Tryz.prog W 0 (fun _ => true) true n 4 [c3] = some y3 := by simpa [cU8a, cBoolC] using hf 3 _ rfl
   obtain ⟨m0, e0, _, w0⟩ := DataW.trod_int underlying5 f0
   obtain ⟨m1, e1, _, w1⟩ := DataW.trod_int underlying5 f1
   obtain ⟨b2, e2, _⟩ := DataW.trod_bool underlying4 f2
   obtain ⟨b3, e3, _⟩ := DataW.trod_bool underlying4 f3
   simp only [List.cons.injEq, and_true] at e0 e1 e2 e3
   subst e0 e1 e2 e3
   obtain ⟨a0, a1⟩ := u8_nat (bounds_u8 w0)
   obtain ⟨a2, a3⟩ := u8_nat (bounds_u8 w1)
   exact ⟨⟨m0.toNat, m1.toNat, b2, b3⟩, by
    show _ = ([.int .u8 ((m0.toNat : Nat) : Int), .int .u8 ((m1.toNat : Nat) : Int), .bool b2, .bool b3] : List Value)
    rw [a0, a2], ⟨a1, a3⟩⟩
theorem field_rows {α : Type} (L : Lay α) (hk : 0 < L.k) (x0 : α) (Q : α → Prop) {tS tE : TypeId} (hu : Tryz.prog.underlying tS = some (.slice tE)) (hc : Tryz.prog.cellsOf tE = L.k) {W : World} (htr : ∀ {k : Nat} {cs : List Value} {x : DataW H × List MemPlace}, DataW.trod enc Tryz.prog W 0 (fun _ => true) true k tE cs = some x → ∃ v, cs = L.C v ∧ Q v) {v : Value} {n : Nat} {y : DataW H × List MemPlace} (hf : DataW.trod enc Tryz.prog W 0 (fun _ => true) true n tS [v] = some y) :
  ∃ (A : Option Addr) (c : Nat) (l : List α), v = .slice A l.length c ∧ (∀ x ∈ l, Q x) ∧ Row1 L W W.heap.size A l ∧ (∃ e sp, (y.1 = .slice e sp ∧ e.length = l.length) ∨ l = []) := by
 rcases open_slice hu hf with ⟨hcs, _⟩ | ⟨a, len, cap, m, k, D, Pl, hcs, _, hl, hm, hmm, hy, hi⟩
 ·simp only [List.cons.injEq, and_true] at hcs
  subst hcs
  exact ⟨none, 0, [], rfl, by simp, Row1.nil _ _ _ _, [], [], .inr rfl⟩
 ·simp only [List.cons.injEq, and_true] at hcs
  subst hcs
  simp only [if_true] at hmm
  rw [hc] at hi
  have h1 : ∀ i, ∃ v : α, i < len → Q v ∧ ∀ (j : Nat) (u : Value), (L.C v)[j]? = some u → W.cell? ((a.add (i * L.k)).add j) = some u := fun i => by
   by_cases hil : i < len
   ·obtain ⟨cs', hc, ht⟩ := hi i (by omega)
    obtain ⟨v, hcs, hw⟩ := htr ht
    obtain ⟨_, hcl, hat⟩ := World.cells?_some hc
    refine ⟨v, fun _ => ⟨hw, fun j u hj => ?_⟩⟩
    have hj7 : j < L.k := by rw [← L.len v]; exact (List.getElem?_eq_some_iff.1 hj).1
    rw [hat j hj7, hcs]
    exact hj
   ·exact ⟨x0, fun h => absurd h hil⟩
  obtain ⟨f, hfv⟩ := Classical.axiomOfChoice h1
  have hlen : ((List.range len).map f).length = len := by rw [List.length_map, List.length_range]
  refine ⟨some a, cap, (List.range len).map f, by rw [hlen], fun v hv => ?_, ⟨fun h0 => ?_⟩, (List.range len).map D, (List.range (m - len)).map fun j => D (len + j), .inl ⟨by rw [hy], by rw [List.length_map, List.length_range, hlen]⟩⟩
  ·obtain ⟨i, hir, rfl⟩ := List.mem_map.1 hv
   exact (hfv i (List.mem_range.1 hir)).1
  ·rw [hlen] at h0
   obtain ⟨_, hc0⟩ := hfv 0 h0
   have h00 : (a.add (0 * L.k)).add 0 = a := by unfold Addr.add; simp
   have hl0 : 0 < (L.C (f 0)).length := by rw [L.len]; exact hk
   obtain ⟨e, hb⟩ := addr_of_cell (h00 ▸ hc0 0 _ (List.getElem?_eq_getElem hl0))
   refine ⟨a.block, a.off, by rw [← e], hb, fun j u hj => ?_⟩
   have hjl : j < len * L.k := by
    have := (List.getElem?_eq_some_iff.1 hj).1
    rw [L.flat_len, hlen] at this
    exact this
   have hq : j / L.k < len := (Nat.div_lt_iff_lt_mul hk).2 hjl
   have hr : j % L.k < L.k := Nat.mod_lt _ hk
   have hjj : j / L.k * L.k + j % L.k = j := Nat.div_add_mod' j L.k
   have hg := L.flat_get ((List.range len).map f) (j / L.k) (j % L.k) (f (j / L.k)) (by rw [List.getElem?_map, List.getElem?_range hq]; rfl) hr
   rw [hjj, hj] at hg
   have h3 := (hfv (j / L.k) hq).2 (j % L.k) u hg.symm
   have e2 : (a.add (j / L.k * L.k)).add (j % L.k) = ⟨a.block, a.off + j, none⟩ := by
    rw [e, add_plain, add_plain, Nat.add_assoc, hjj]
   rw [← e2]
   exact h3
theorem open_acts {W : World} {v : Value} {d : DataW H} {p : List MemPlace} {base : Nat} (hv : Value.okWide Tryz.prog W .any base 25 v) (h : DataW.Trod enc Tryz.prog W 0 (fun _ => true) true 25 v d p) (hsz : ∀ x ∈ d.weights Tryz.prog 25, x ≤ reachBytes) :
  ∃ (A : Option Addr) (c : Nat) (l : List Dg.Ac), v = .slice A l.length c ∧ (∀ x ∈ l, AcW x ∧ PtW x.patch) ∧ Row1 acL W W.heap.size A l ∧ l.length * 208 ≤ 140737488355328 := by
 obtain ⟨a0, len, cap, rfl⟩ := okWide_slice underlying25 hv
 obtain ⟨fuel, hf⟩ := h
 obtain ⟨A, c, l, e, h1, h2, el, sp, h3⟩ := field_rows acL (by decide) ⟨0, 0, false, Dg.Cl0.patch⟩ (fun a => AcW a ∧ PtW a.patch) underlying25 cAct trod_act (by simpa [Value.cells] using hf)
 refine ⟨A, c, l, e, h1, h2, ?_⟩
 rcases h3 with ⟨h3, h4⟩ | h3
 ·have h5 : (el.length + sp.length) * Tryz.prog.bytesOf 61 ∈ d.weights Tryz.prog 25 := by
   rw [show d = .slice el sp from h3]
   simp [DataW.weights, underlying25]
  have h6 := hsz _ h5
  rw [bytesAct, h4] at h6
  unfold reachBytes at h6
  omega
 ·rw [h3]; decide
theorem open_ways {W : World} {v : Value} {d : DataW H} {p : List MemPlace} {base : Nat} (hv : Value.okWide Tryz.prog W .any base 26 v) (h : DataW.Trod enc Tryz.prog W 0 (fun _ => true) true 26 v d p) :
  ∃ (A : Option Addr) (c : Nat) (l : List Dg.Wy), v = .slice A l.length c ∧ (∀ x ∈ l, WyW x) ∧ Row1 wyL W W.heap.size A l := by
 obtain ⟨a0, len, cap, rfl⟩ := okWide_slice underlying26 hv
 obtain ⟨fuel, hf⟩ := h
 obtain ⟨A, c, l, e, h1, h2, _⟩ := field_rows wyL (by decide) ⟨0, 0, false, false⟩ WyW underlying26 cWay trod_way (by simpa [Value.cells] using hf)
 exact ⟨A, c, l, e, h1, h2⟩
theorem open_u8 {W : World} {v : Value} {d : DataW H} {p : List MemPlace} {base : Nat} (hv : Value.okWide Tryz.prog W .any base 5 v) (h : DataW.Trod enc Tryz.prog W 0 (fun _ => true) true 5 v d p) : ∃ s : Nat, v = .int .u8 (s : Int) ∧ s < 256 := by
 obtain ⟨m, rfl, _, _, hm⟩ := open_int underlying5 hv h
 obtain ⟨a0, a1⟩ := u8_nat (bounds_u8 hm)
 exact ⟨m.toNat, by rw [a0], a1⟩
end
end Go.Proofs.YtkpbofnnnihbeaaGreat
namespace Go.Proofs.YtkpbofnnnihbeaaGreat
open Go Go.RowKit Go.Sort Go.Maps Rw Tryz
theorem handed_shaped {H : Type} {enc : TypeId × Value → H} {a : Assume} {C : Checked} {os : Os} {f : FuncId} {fn : Func} {s : ChangeSpec} {conds : List PathCond} {apart fresh handsOn again : Bool} {X : World → Array Value → Prop}
  (hX : ∀ (w w' : World) (args : Array Value), w.heap = w'.heap → X w args → X w' args)
  (own : ownKnob C.prog.godebug = none) (started : os.Started) (noInit : C.prog.inits.idxOf? f = none) (hfn : C.prog.funcs[f]? = some fn)
  (witness : ∃ (w : World) (tape : Tape) (i : Input), w.os = os ∧ (w.forCall tape i).Shaped C.prog ∧ i.vars = [] ∧ Input.okWide C.prog (w.forCall tape i) .any w.heap.size f i ∧
   ((s.pre enc C.prog fn conds apart (w.forCall tape i).memory i.args ∧ X (w.forCall tape i).memory i.args) ∧ sizedMet enc C.prog fn (OpenSpec.ofChange s) apart (w.forCall tape i).memory i.args) ∧ a.holds C.prog (lone (Frame.enter C.prog f i.args .normal) [] (w.forCall tape i)))
  (contract : ∀ (W : World) (base : Nat) (args : Array Value) (ds gs : List (DataW H)) (before : List MemPlace),
   (∀ (j : Nat) t v, fn.params[j]? = some t → args[j]? = some v → Value.okWide C.prog W .any base t v) →
   DataW.Whole enc C.prog fn.params.toList s.vars apart W args.toList ds gs before →
   conds.all (PathCond.test C.prog ⟨fn.params.toList, ds, s.plain.varTypes C.prog, gs⟩) = true →
   (DataW.weightsEach C.prog (fn.params.toList ++ s.plain.varTypes C.prog) (ds ++ gs)).all (· ≤ reachBytes) = true → X W args → W.ShapedOpen C.prog →
   a.holds C.prog (lone (Frame.enter C.prog f args .normal) [] W) →
   Calls C.prog f args W fun e W' => ∃ v, e = .returned v ∧ s.post enc C.prog fn apart fresh handsOn again W args v W') :
  ReturnsInHanded a C os f .any (fun w args => (s.pre enc C.prog fn conds apart w args ∧ X w args) ∧ sizedMet enc C.prog fn (OpenSpec.ofChange s) apart w args) (s.post enc C.prog fn apart fresh handsOn again) := by
 refine returnsInHanded_of_calls own started noInit witness ?_
 intro w tape i _ hsh _ hok hpre hholds
 obtain ⟨_, _, _, fn', hfn', _, _, _, _, hval⟩ := hok
 obtain rfl : fn' = fn := Option.some.inj (hfn'.symm.trans hfn)
 obtain ⟨⟨⟨ds, gs, before, hw, hc⟩, hx⟩, hz⟩ := hpre
 have hw' := DataW.Whole.of_heap (w' := w.forCall tape i) (by rfl) hw
 refine (contract (w.forCall tape i) w.heap.size i.args ds gs before hval hw' hc (hz.weights hw) (hX _ _ _ (by rfl) hx) hsh hholds).mono fun e W' ⟨v, he, hp⟩ => ?_
 subst he
 exact ChangeSpec.post_blind hp
theorem maxJ_of {W : World} (h : W.ShapedOpen Tryz.prog) : MaxJ W :=
 cell_of_shapedOpen_int (t := 3) (zero := #[.int .i64 0]) h (by decide +kernel) (by kernel_rfl) rfl (by kernel_rfl) (by kernel_rfl) underlying3
end Go.Proofs.YtkpbofnnnihbeaaGreat

