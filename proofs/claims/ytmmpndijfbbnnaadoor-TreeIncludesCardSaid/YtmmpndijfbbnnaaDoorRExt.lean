/- Extends of the reference. -/
import Derived.Test.YtmmpndijfbbnnaaDoorRCheck
namespace Go.Proofs.YtmmpndijfbbnnaaDoor
open Go Go.RowKit Go.Sort
theorem extB_all (old : ByteArray) (root : ByteArray) (N : Nat) (p : List ByteArray) (h0 : N ≠ 0) (hd : allDig p = true) (hd2 : allDig [old, root] = true) (hN : N ≤ 1000000) : extB old N root N p = (decide (p.length = 0) && decide (old = root)) := by
  unfold extB
  rw [hd, hd2, decide_eq_true (show (0 : Int) ≤ N ∧ (N : Int) ≤ N ∧ (N : Int) ≤ 1000000 by omega), if_neg (by omega), Int.toNat_natCast, Dg.long_all, Dg.both_all, Bool.true_and, Bool.true_and, Bool.true_and, if_pos rfl, if_pos rfl, decide_eq_true (show (old, old).1 = old from rfl), Bool.true_and]
set_option maxRecDepth 100000 in
set_option maxHeartbeats 1000000 in
theorem rextends_of (old : ByteArray) (m : Int) (root : ByteArray) (n : Int) (A : Option Addr) (c k : Nat) (p : List ByteArray) (R : Bool) (hR : extB old m root n p = R) (w : World) (hk : p.length = k) (hk2 : k ≤ 1048576) (hkc : k ≤ c) (hps : ∀ s ∈ p, s.size ≤ 1048576)
    (hold : old.size ≤ 1048576) (hroot : root.size ≤ 1048576) (hS : Strs w w.heap.size A p) :
    Calls Tryd.prog 27 #[.string old, .int .i64 m, .string root, .int .i64 n, .slice A k c] w fun e w' => e = .returned (.bool R) ∧ Below w.heap.size w w' := by
  have HR := hide hR; clear hR
  have HPS := hide hps; clear hps
  go_enter Tryd.func27, Tryd.ntmps27
  by_cases q1 : m < 0
  · have q : extB old m root n p = false := by unfold extB; rw [decide_eq_false (by omega), Bool.false_and]
    have := q.symm.trans HR.out
    subst this
    go_wp2
    go_ret
    exact ⟨rfl, Below.refl _ _⟩
  by_cases q2 : n < m
  · have q : extB old m root n p = false := by unfold extB; rw [decide_eq_false (by omega), Bool.false_and]
    have := q.symm.trans HR.out
    subst this
    go_wp2
    go_ret
    exact ⟨rfl, Below.refl _ _⟩
  by_cases q3 : 1000000 < n
  · have q : extB old m root n p = false := by unfold extB; rw [decide_eq_false (by omega), Bool.false_and]
    have := q.symm.trans HR.out
    subst this
    go_wp2
    go_ret
    exact ⟨rfl, Below.refl _ _⟩
  obtain ⟨M, rfl⟩ : ∃ I : Nat, m = I := ⟨m.toNat, by omega⟩
  obtain ⟨N, rfl⟩ : ∃ N : Nat, n = N := ⟨n.toNat, by omega⟩
  have q4 : decide ((0 : Int) ≤ M ∧ (M : Int) ≤ N ∧ (N : Int) ≤ 1000000) = true := decide_eq_true (by omega)
  have o1 : N ≤ 1000000 := by omega
  have o2 : M ≤ N := by omega
  clear q1 q2 q3
  subst hk
  go_wp2_with fail
  cases hd2 : allDig [old, root] with
  | false =>
    have q : extB old M root N p = false := by unfold extB; rw [hd2, Bool.false_and, Bool.and_false, Bool.and_false]
    have := q.symm.trans HR.out
    subst this
    refine (rdigests_any _ _ 2 [old, root] false hd2 _ rfl (by omega) (fun s hs => by rcases List.mem_cons.1 hs with rfl | hs; omega; rw [List.mem_singleton.1 hs]; omega) (Strs.new _ _ _ _ rfl)).mono ?_
    rintro e w4 ⟨rfl, hb3⟩
    clear hd2
    go_wp2
    go_ret
    exact ⟨rfl, bnextA (Below.refl _ _) hb3⟩
  | true =>
    refine (rdigests_any _ _ 2 [old, root] true hd2 _ rfl (by omega) (fun s hs => by rcases List.mem_cons.1 hs with rfl | hs; omega; rw [List.mem_singleton.1 hs]; omega) (Strs.new _ _ _ _ rfl)).mono ?_
    rintro e w4 ⟨rfl, hb3⟩
    have hB := bnextA (Below.refl _ _) hb3
    have hS1 := keepS hS hB
    have HD2 := hide hd2
    clear hb3 hS hd2
    go_wp2_with fail
    cases hd : allDig p with
    | false =>
      have q : extB old M root N p = false := by unfold extB; rw [hd, Bool.false_and, Bool.and_false]
      have := q.symm.trans HR.out
      subst this
      refine (rdigests_any A c p.length p false hd _ rfl (by omega) (fun s hs => by have := HPS.out s hs; omega) hS1).mono ?_
      rintro e w2 ⟨rfl, hb⟩
      clear hd
      go_wp2
      go_ret
      exact ⟨rfl, bnext hB hb⟩
    | true =>
      refine (rdigests_any A c p.length p true hd _ rfl (by omega) (fun s hs => by have := HPS.out s hs; omega) hS1).mono ?_
      rintro e w2 ⟨rfl, hb⟩
      have hB2 := bnext hB hb
      have hS2 := keepS hS1 hb
      have HALL := hide (fun (h0 : N ≠ 0) => extB_all old root N p h0 hd HD2.out o1)
      have q : extB old M root N p = (if (M : Int) = 0 then decide (p.length = 0) && (decide (old = Dg.emptyB) && (decide (0 < (N : Int)) || decide (root = old)))
          else decide (p.length = Dg.long N M true) && (decide ((Dg.both N M true old p.reverse).1 = old) && decide ((Dg.both N M true old p.reverse).2 = root))) := by
        unfold extB; rw [hd, HD2.out, q4, Bool.true_and, Bool.true_and, Bool.true_and, Int.toNat_natCast, Int.toNat_natCast]
      have HR2 := hide (q.symm.trans HR.out); clear q q4 hd hB hS1 hb
      by_cases h0 : M = 0
      · subst h0
        have HR3 := HR2.out
        rw [if_pos (show ((0 : Nat) : Int) = 0 from rfl)] at HR3
        have HR3 := hide HR3; clear HR2 HALL HR
        by_cases e0 : p.length = 0
        · have f0 : ((p.length : Int) == 0) = true := by rw [e0]; rfl
          have f1 : p = [] := List.length_eq_zero_iff.1 e0
          subst f1
          go_wp2_with fail
          refine (rempty_any _).mono ?_
          rintro e w5 ⟨rfl, hb5⟩
          have hB5 := bnext hB2 hb5
          by_cases e1 : old = Dg.emptyB
          · have t1 := tl_true e1
            by_cases e2 : 0 < N
            · have f2 : decide ((0 : Int) < (N : Int)) = true := decide_eq_true (by omega)
              have hr := HR3.out
              rw [decide_eq_true e1, f2] at hr
              have hr := hide hr; clear e1
              go_wp2
              go_ret
              exact ⟨ret_bool hr.out, hB5⟩
            · have f2 : decide ((0 : Int) < (N : Int)) = false := decide_eq_false (by omega)
              by_cases e3 : root = old
              · have t3 := tl_true e3
                have hr := HR3.out
                rw [decide_eq_true e1, f2, decide_eq_true e3] at hr
                have hr := hide hr; clear e1 e3
                go_wp2
                go_ret
                exact ⟨ret_bool hr.out, hB5⟩
              · have t3 := tl_false e3
                have hr := HR3.out
                rw [decide_eq_true e1, f2, decide_eq_false e3] at hr
                have hr := hide hr; clear e1 e3
                go_wp2
                go_ret
                exact ⟨ret_bool hr.out, hB5⟩
          · have t1 := tl_false e1
            have hr := HR3.out
            rw [decide_eq_false e1] at hr
            have hr := hide hr; clear e1
            go_wp2
            go_ret
            exact ⟨ret_bool hr.out, hB5⟩
        · have f0 : ((p.length : Int) == 0) = false := ieq_f (by omega)
          have hr := HR3.out
          rw [decide_eq_false e0] at hr
          have hr := hide hr; clear e0
          go_wp2
          go_ret
          exact ⟨ret_bool hr.out, hB2⟩
      · have f00 : ((M : Int) == 0) = false := ieq_f (by omega)
        by_cases hMN : M = N
        · subst hMN
          have HR3 := (HALL.out h0).symm.trans HR.out
          have HR3 := hide HR3; clear HR2 HALL HR
          by_cases e0 : p.length = 0
          · have f0 : ((p.length : Int) == 0) = true := ieq_t (by omega)
            by_cases e1 : old = root
            · have t1 := tl_true e1
              have hr := HR3.out
              rw [decide_eq_true e1, decide_eq_true e0] at hr
              have hr := hide hr; clear e0
              subst e1
              go_wp2
              go_ret
              exact ⟨ret_bool hr.out, hB2⟩
            · have t1 := tl_false e1
              have hr := HR3.out
              rw [decide_eq_false e1, decide_eq_true e0] at hr
              have hr := hide hr; clear e0 e1
              go_wp2
              go_ret
              exact ⟨ret_bool hr.out, hB2⟩
          · have f0 : ((p.length : Int) == 0) = false := ieq_f (by omega)
            have hr := HR3.out
            rw [decide_eq_false e0] at hr
            have hr := hide hr; clear e0
            go_wp2
            go_ret
            exact ⟨ret_bool hr.out, hB2⟩
        · have f01 : ((M : Int) == (N : Int)) = false := ieq_f (by omega)
          have HR3 := HR2.out
          rw [if_neg (show ¬ (M : Int) = 0 by omega)] at HR3
          have HR3 := hide HR3; clear HR2 HALL HR
          go_wp2_with fail
          have hl := long_le N M true (by omega) o2
          have hup := hide (fun (W : World) (h : p.length = Dg.long N M true) (hST : Strs W W.heap.size A p) => rboth_any N M true A c p.length old p _ _ W rfl h.symm rfl rfl (by omega) o2 (by omega) hkc hold HPS.out hST)
          refine (rlong_any N M true _ _ rfl (by omega) o2 (by omega)).mono ?_
          rintro e w5 ⟨rfl, rfl⟩
          by_cases he : p.length = Dg.long N M true
          · have he' := hide he
            generalize hL : Dg.long N M true = L at *
            have e1 : ((p.length : Int) == (L : Int)) = true := ieq_t (by omega)
            have e2 : ((p.length : Int) != (L : Int)) = false := ine_f (by omega)
            clear hL he
            have hU := hide (hup.out _ he'.out hS2)
            generalize (Dg.both N M true old p.reverse).1 = X1 at *
            generalize (Dg.both N M true old p.reverse).2 = X2 at *
            clear hup
            go_wp2_with fail
            refine hU.out.mono ?_
            rintro e w6 ⟨rfl, hb6⟩
            have hB6 := bnext hB2 hb6
            have q := HR3.out
            rw [decide_eq_true he'.out, Bool.true_and] at q
            by_cases hx1 : X1 = old
            · have t1 := tl_true hx1
              rw [decide_eq_true hx1, Bool.true_and] at q
              by_cases hx2 : X2 = root
              · have t2 := tl_true hx2
                rw [decide_eq_true hx2] at q
                subst q hx1 hx2
                go_wp2
                go_ret
                exact ⟨rfl, hB6⟩
              · have t2 := tl_false hx2
                rw [decide_eq_false hx2] at q
                subst q hx1
                clear hx2
                go_wp2
                go_ret
                exact ⟨rfl, hB6⟩
            · have t1 := tl_false hx1
              rw [decide_eq_false hx1, Bool.false_and] at q
              subst q
              clear hx1
              go_wp2
              go_ret
              exact ⟨rfl, hB6⟩
          · have q := HR3.out
            rw [decide_eq_false he, Bool.false_and] at q
            subst q
            generalize hL : Dg.long N M true = L at *
            have e1 : ((p.length : Int) == (L : Int)) = false := ieq_f (by omega)
            have e2 : ((p.length : Int) != (L : Int)) = true := ine_t (by omega)
            clear hL he hup
            go_wp2
            go_ret
            exact ⟨rfl, hB2⟩
end Go.Proofs.YtmmpndijfbbnnaaDoor
