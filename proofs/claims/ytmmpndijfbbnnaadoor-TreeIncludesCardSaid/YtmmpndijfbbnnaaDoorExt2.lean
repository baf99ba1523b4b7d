/- Extends of package tree. -/
import Derived.Test.YtmmpndijfbbnnaaDoorExt
namespace Go.Proofs.YtmmpndijfbbnnaaDoor
open Go Go.RowKit Go.Sort
/-- What Extends answers. -/
def extB (old : ByteArray) (m : Int) (root : ByteArray) (n : Int) (p : List ByteArray) : Bool :=
  decide (0 ≤ m ∧ m ≤ n ∧ n ≤ 1000000) && (allDig p && (allDig [old, root] &&
    (if m = 0 then decide (p.length = 0) && (decide (old = Dg.emptyB) && (decide (0 < n) || decide (root = old)))
     else decide (p.length = Dg.long n.toNat m.toNat true) && (decide ((Dg.both n.toNat m.toNat true old p.reverse).1 = old) && decide ((Dg.both n.toNat m.toNat true old p.reverse).2 = root)))))
theorem allDig_two {a b : ByteArray} (h : allDig [a, b] = true) : a.size = 16 ∧ b.size = 16 := ⟨allDig_16 h a (by simp), allDig_16 h b (by simp)⟩
theorem root_nil_of (w : World) (he : Env w) : Calls Tryd.prog 21 #[.slice none 0 0] w fun e w' => e = .returned (.string Dg.emptyB) ∧ Below w.heap.size w w' :=
  root_of 0 none 0 [] Dg.emptyB w rfl rfl he (Nat.le_refl _) (by omega) (by simp) (Strs.nil _ _ _)
set_option maxRecDepth 100000 in
set_option maxHeartbeats 1000000 in
theorem extends_of (old : ByteArray) (m : Int) (root : ByteArray) (n : Int) (A : Option Addr) (c k : Nat) (p : List ByteArray) (R : Bool) (hR : extB old m root n p = R) (w : World) (he : Env w) (hk : p.length = k) (hk2 : k ≤ 1048576) (hps : ∀ s ∈ p, s.size ≤ 1073741824)
    (hold : old.size ≤ 1073741824) (hroot : root.size ≤ 1073741824) (hS : Strs w w.heap.size A p) :
    Calls Tryd.prog 26 #[.string old, .int .i64 m, .string root, .int .i64 n, .slice A k c] w fun e w' => e = .returned (.bool R) ∧ Below w.heap.size w w' := by
  have HR := hide hR; clear hR
  have HPS := hide hps; clear hps
  go_enter Tryd.func26, Tryd.ntmps26
  have hS1 : Strs (w.alloc (.cells #[.string old] 9)) (w.alloc (.cells #[.string old] 9)).heap.size A p := keepS hS ((Below.refl _ _).alloc (Nat.le_refl _) _)
  go_wp2_with fail
  refine (clone_any A k c p _ hk (by omega) hS1).mono ?_
  rintro e w2 ⟨v', rfl, ho, hb2⟩
  obtain ⟨A1, c1, rfl, hc1, hS2⟩ := ho.strs
  subst hk
  have hbf : w2.cell? ⟨w.heap.size, 0, none⟩ = some (.string old) := by
    rw [hb2.cell (p := ⟨w.heap.size, 0, none⟩) (by simp), cell_of_row _ _ _ _ _ (0, 0) (heap_alloc_new w _)]; rfl
  have hsz : w.heap.size < w2.heap.size := by have := hb2.size; simp at this; omega
  have hB := ((Below.refl _ w).alloc (Nat.le_refl _) (.cells #[.string old] 9)).trans (hb2.mono (by simp))
  clear ho hS1 hS hb2
  by_cases q1 : m < 0
  · have q : extB old m root n p = false := by unfold extB; rw [decide_eq_false (by omega), Bool.false_and]
    have := q.symm.trans HR.out
    subst this
    go_wp2
    go_ret
    exact ⟨rfl, hB.alloc (by omega) _⟩
  by_cases q2 : n < m
  · have q : extB old m root n p = false := by unfold extB; rw [decide_eq_false (by omega), Bool.false_and]
    have := q.symm.trans HR.out
    subst this
    go_wp2
    go_ret
    exact ⟨rfl, hB.alloc (by omega) _⟩
  by_cases q3 : 1000000 < n
  · have q : extB old m root n p = false := by unfold extB; rw [decide_eq_false (by omega), Bool.false_and]
    have := q.symm.trans HR.out
    subst this
    go_wp2
    go_ret
    exact ⟨rfl, hB.alloc (by omega) _⟩
  obtain ⟨M, rfl⟩ : ∃ I : Nat, m = I := ⟨m.toNat, by omega⟩
  obtain ⟨N, rfl⟩ : ∃ N : Nat, n = N := ⟨n.toNat, by omega⟩
  have q4 : decide ((0 : Int) ≤ M ∧ (M : Int) ≤ N ∧ (N : Int) ≤ 1000000) = true := decide_eq_true (by omega)
  have hG := (he.next hB).lt
  have hE2 := he.next hB
  have o1 : N ≤ 1000000 := by omega
  have o2 : M ≤ N := by omega
  clear q1 q2 q3
  go_wp2_with fail
  cases hd : allDig p with
  | false =>
    have q : extB old M root N p = false := by unfold extB; rw [hd, Bool.false_and, Bool.and_false]
    have := q.symm.trans HR.out
    subst this
    refine (proper_any A1 c1 p.length p false hd _ rfl (by omega) (fun s hs => by have := HPS.out s hs; omega) (keepS hS2 ((Below.refl _ _).alloc (Nat.le_refl _) _))).mono ?_
    rintro e w3 ⟨rfl, hb3⟩
    clear hd
    go_wp2
    go_ret
    exact ⟨rfl, bnextA hB hb3⟩
  | true =>
    refine (proper_any A1 c1 p.length p true hd _ rfl (by omega) (fun s hs => by have := HPS.out s hs; omega) (keepS hS2 ((Below.refl _ _).alloc (Nat.le_refl _) _))).mono ?_
    rintro e w3 ⟨rfl, hb3⟩
    have h16 := hide (allDig_16 hd)
    have HD := hide hd; clear hd
    have hb32 : Below w2.heap.size w2 w3 := bnextA (Below.refl _ _) hb3
    have hsz3 := hb3.size
    simp only [World.size_alloc] at hsz3
    have x1 : w3.cell? ⟨w2.heap.size, 0, none⟩ = some (.slice A1 p.length c1) := by
      rw [hb3.cell (p := ⟨w2.heap.size, 0, none⟩) (by simp), cell_of_row _ _ _ _ _ (0, 0) (heap_alloc_new w2 _)]; rfl
    have x2 : w3.frozen? ⟨w2.heap.size, 0, none⟩ = false := by
      rw [hb3.frozen (p := ⟨w2.heap.size, 0, none⟩) (by simp)]; exact frozen_of_row _ _ _ _ _ (heap_alloc_new w2 _)
    have x3 : w3.cell? ⟨w.heap.size, 0, none⟩ = some (.string old) := (hb32.cell (p := ⟨w.heap.size, 0, none⟩) hsz).trans hbf
    have hB3 := hB.trans (hb32.mono hB.size)
    have hE3 := hE2.next hb32
    clear hb3 hE2 hbf
    have X1 := hide x1; have X2 := hide x2; clear x1 x2
    go_wp2_with fail
    cases hd : allDig [old, root] with
    | false =>
      have q : extB old M root N p = false := by unfold extB; rw [hd, Bool.false_and, Bool.and_false, Bool.and_false]
      have := q.symm.trans HR.out
      subst this
      refine (proper_any _ _ 2 [old, root] false hd _ rfl (by omega) (fun s hs => by rcases List.mem_cons.1 hs with rfl | hs; omega; rw [List.mem_singleton.1 hs]; omega) (Strs.new _ _ _ _ rfl)).mono ?_
      rintro e w4 ⟨rfl, hb3⟩
      clear hd
      go_wp2
      go_ret
      exact ⟨rfl, hB3.trans ((bnextA (Below.refl _ _) hb3).mono hB3.size)⟩
    | true =>
      refine (proper_any _ _ 2 [old, root] true hd _ rfl (by omega) (fun s hs => by rcases List.mem_cons.1 hs with rfl | hs; omega; rw [List.mem_singleton.1 hs]; omega) (Strs.new _ _ _ _ rfl)).mono ?_
      rintro e w4 ⟨rfl, hb3⟩
      obtain ⟨zo, zr⟩ := allDig_two hd
      have q : extB old M root N p = (if (M : Int) = 0 then decide (p.length = 0) && (decide (old = Dg.emptyB) && (decide (0 < (N : Int)) || decide (root = old)))
          else decide (p.length = Dg.long N M true) && (decide ((Dg.both N M true old p.reverse).1 = old) && decide ((Dg.both N M true old p.reverse).2 = root))) := by
        unfold extB; rw [hd, HD.out, q4, Bool.true_and, Bool.true_and, Bool.true_and, Int.toNat_natCast, Int.toNat_natCast]
      have HR2 := hide (q.symm.trans HR.out); clear q q4 hd HR
      have hb43 : Below w3.heap.size w3 w4 := bnextA (Below.refl _ _) hb3
      have x1 : w4.cell? ⟨w2.heap.size, 0, none⟩ = some (.slice A1 p.length c1) := (hb43.cell (p := ⟨w2.heap.size, 0, none⟩) (by show w2.heap.size < _; omega)).trans X1.out
      have x2 : w4.frozen? ⟨w2.heap.size, 0, none⟩ = false := (hb43.frozen (p := ⟨w2.heap.size, 0, none⟩) (by show w2.heap.size < _; omega)).trans X2.out
      have x3' : w4.cell? ⟨w.heap.size, 0, none⟩ = some (.string old) := (hb43.cell (p := ⟨w.heap.size, 0, none⟩) (by show w.heap.size < _; omega)).trans x3
      have hB4 := hB3.trans (hb43.mono hB3.size)
      have hE4 := hE3.next hb43
      have hS4 := (hS2.below hb32).below (hb43.mono hb32.size)
      have hsz4 := hb43.size
      clear hb3 hb43 hE3 hS2 x3 hB3 X1 X2
      by_cases h0 : M = 0
      · subst h0
        have HR3 := HR2.out
        rw [if_pos (show ((0 : Nat) : Int) = 0 from rfl)] at HR3
        have HR3 := hide HR3; clear HR2
        have HD4 := hide hb32
        have q1 := fun (d : Nat) (os : Array Obj) => Calls.regrown_of (root_nil_of (grow (redrawn w4 d) os) (hE4.next (below_regrown w4 d os)))
        have Q1 := hide q1; clear q1 x1 x2 hS4
        have CR := fun (d : Nat) (os : Array Obj) => cell_regrown x3' d os
        by_cases e0 : p.length = 0
        · have f0 : ((p.length : Int) == 0) = true := by rw [e0]; rfl
          have f1 : p = [] := List.length_eq_zero_iff.1 e0
          subst f1
          by_cases e1 : old = Dg.emptyB
          · have t1 := tl_true e1
            by_cases e2 : 0 < N
            · have f2 : decide ((0 : Int) < (N : Int)) = true := decide_eq_true (by omega)
              have hr := HR3.out
              rw [decide_eq_true e1, f2] at hr
              have hr := hide hr; clear e1
              go_wp2_with fail
              refine wp_region_quiet_below (by kernel_rfl) (by decide +kernel) ?_
              repeat (first | go_big_quiet_step (exact Q1.out _ _) | quiet_step (exact Q1.out _ _))
              refine wpQuiet_nil ?_
              intro _ hw'
              obtain ⟨⟨dq, osq⟩, hw''⟩ := hw'
              subst hw''
              go_wp2
              go_ret
              exact ⟨ret_bool hr.out, hB4.trans ((below_regrown w4 dq osq).mono hB4.size)⟩
            · have f2 : decide ((0 : Int) < (N : Int)) = false := decide_eq_false (by omega)
              by_cases e3 : root = old
              · have t3 := tl_true e3
                have hr := HR3.out
                rw [decide_eq_true e1, f2, decide_eq_true e3] at hr
                have hr := hide hr; clear e1 e3
                go_wp2_with fail
                refine wp_region_quiet_below (by kernel_rfl) (by decide +kernel) ?_
                repeat (first | go_big_quiet_step (exact Q1.out _ _) | quiet_step (exact Q1.out _ _))
                refine wpQuiet_nil ?_
                intro _ hw'
                obtain ⟨⟨dq, osq⟩, hw''⟩ := hw'
                subst hw''
                go_wp2
                go_ret
                exact ⟨ret_bool hr.out, hB4.trans ((below_regrown w4 dq osq).mono hB4.size)⟩
              · have t3 := tl_false e3
                have hr := HR3.out
                rw [decide_eq_true e1, f2, decide_eq_false e3] at hr
                have hr := hide hr; clear e1 e3
                go_wp2_with fail
                refine wp_region_quiet_below (by kernel_rfl) (by decide +kernel) ?_
                repeat (first | go_big_quiet_step (exact Q1.out _ _) | quiet_step (exact Q1.out _ _))
                refine wpQuiet_nil ?_
                intro _ hw'
                obtain ⟨⟨dq, osq⟩, hw''⟩ := hw'
                subst hw''
                go_wp2
                go_ret
                exact ⟨ret_bool hr.out, hB4.trans ((below_regrown w4 dq osq).mono hB4.size)⟩
          · have t1 := tl_false e1
            have hr := HR3.out
            rw [decide_eq_false e1] at hr
            have hr := hide hr; clear e1
            go_wp2_with fail
            refine wp_region_quiet_below (by kernel_rfl) (by decide +kernel) ?_
            repeat (first | go_big_quiet_step (exact Q1.out _ _) | quiet_step (exact Q1.out _ _))
            refine wpQuiet_nil ?_
            intro _ hw'
            obtain ⟨⟨dq, osq⟩, hw''⟩ := hw'
            subst hw''
            go_wp2
            go_ret
            exact ⟨ret_bool hr.out, hB4.trans ((below_regrown w4 dq osq).mono hB4.size)⟩
        · have f0 : ((p.length : Int) == 0) = false := by simpa using e0
          have hr := HR3.out
          rw [decide_eq_false e0] at hr
          have hr := hide hr; clear e0
          go_wp2_with fail
          refine wp_region_quiet_below (by kernel_rfl) (by decide +kernel) ?_
          repeat (first | go_big_quiet_step (exact Q1.out _ _) | quiet_step (exact Q1.out _ _))
          refine wpQuiet_nil ?_
          intro _ hw'
          obtain ⟨⟨dq, osq⟩, hw''⟩ := hw'
          subst hw''
          go_wp2
          go_ret
          exact ⟨ret_bool hr.out, hB4.trans ((below_regrown w4 dq osq).mono hB4.size)⟩
      · have h00 : ¬ (M : Int) = 0 := by omega
        have HR3 := HR2.out
        rw [if_neg h00] at HR3
        have HR3 := hide HR3; clear HR2
        obtain ⟨y1, y2, y3, y4⟩ := setup w4 62 69 66 73 w2.heap.size w2.heap.size w.heap.size c1 p.length A1 (.string old) x1 x2 x3' (by omega) (by omega) (by omega) (Nat.le_refl _) hG (w4.heap.size + 1) (w4.heap.size + 1 + 1) rfl rfl _ rfl
        have hE5 := hE4.next y4
        have hS5 := hS4.below (y4.mono (by omega))
        have Y1 := hide y1; have Y2 := hide y2; have Y3 := hide y3; have HS3 := hide hS5; have HE3 := hide hE5; have Y4 := hide y4
        clear y1 y2 y3 hS5 hE5 y4 x1 x2 x3' hE4 hS4
        have zb := both_sz N M true old p p.length zo h16.out
        have hup := hide (fun (W : World) (a1 : Env W) (a2 : Blk W w2.heap.size w2.heap.size w4.heap.size w.heap.size (w4.heap.size + 1) (w4.heap.size + 1 + 1)) a3 a4 a5 => both_any w2.heap.size w2.heap.size w4.heap.size w.heap.size (w4.heap.size + 1) (w4.heap.size + 1 + 1) c1 A1 old p h16.out hc1 (by omega) zo N M p.length _ true false _ (Dg.both N M true old (p.take p.length).reverse).1 (Dg.both N M true old (p.take p.length).reverse).2 W (by omega) o1 o2 (Nat.le_refl _) rfl rfl rfl a1 a2 a3 a4 a5)
        have hl := long_le N M true (by omega) o2
        rw [List.take_length] at hup zb
        generalize hX1 : (Dg.both N M true old p.reverse).1 = X1 at *
        generalize hX2 : (Dg.both N M true old p.reverse).2 = X2 at *
        clear hX1 hX2
        go_wp2_with fail
        refine (hup.out _ HE3.out Y3.out Y1.out Y2.out HS3.out).mono ?_
        rintro e w5 ⟨rfl, hq, hm⟩
        have hB5 := (hB4.trans (Y4.out.mono hB4.size)).trans (hm.toBelow (by omega) (by omega) (by simp; omega))
        have hdone := hide (fun R hR => done_any w2.heap.size w4.heap.size A1 c1 (p.length - Dg.long N M true) (false || decide (p.length < Dg.long N M true)) R w5 hq (by omega) hR)
        have hcP := (Y2.out.mut Y3.out hm).P
        have hcf := (Y2.out.mut Y3.out hm).f
        clear hup hq hm
        by_cases hx1 : X1 = old
        · by_cases hx2 : X2 = root
          · have HH := HR3.out
            rw [decide_eq_true hx1, decide_eq_true hx2, Bool.and_true, Bool.and_true] at HH
            have t1 := tl_true hx1
            have t2 := tl_true hx2
            have HH := hide HH
            subst hx1 hx2
            go_wp2_with fail
            refine (hdone.out R ((used_all _ _).trans HH.out)).mono ?_
            rintro e w6 ⟨rfl, rfl⟩
            go_wp2
            go_ret
            exact ⟨rfl, hB5⟩
          · have HH := HR3.out
            rw [decide_eq_false hx2, Bool.and_false, Bool.and_false] at HH
            subst HH
            have t1 := tl_true hx1
            have t2 := tl_false hx2
            clear hx2
            subst hx1
            go_wp2
            go_ret
            exact ⟨rfl, hB5⟩
        · have HH := HR3.out
          rw [decide_eq_false hx1, Bool.false_and, Bool.and_false] at HH
          subst HH
          have t1 := tl_false hx1
          clear hx1
          go_wp2
          go_ret
          exact ⟨rfl, hB5⟩
end Go.Proofs.YtmmpndijfbbnnaaDoor
