/- Walks and laws of this seat, several texts in one: VC. No conditions but those that each theorem states. -/
import Derived.Test.YtgncahnkkpjdpaaDoorNA5
/- VoteCarries. No conditions but those that each theorem states. -/
namespace Go.Proofs.YtgncahnkkpjdpaaDoor
open Go Go.RowKit Go.Sort Go.Maps
theorem carE_eq (r : Dg.Rl) (cc : Int) (bill : ByteArray) (l : List Dg.Vt) (hp : Dg.properB r = true) (hc : cc = r.cham) (hB : Dg.isB bill = true) (h8 : l.length ≤ 8) (Y N : Nat) (hY : (Dg.cnt r bill l).yes = Y) (hN : (Dg.cnt r bill l).no = N) : Dg.carE r cc bill l = if ((Y : Nat) : Int) + (N : Nat) < r.quo then 20 else if r.den * (Y : Nat) ≤ r.num * (((Y : Nat) : Int) + (N : Nat)) then 12 else 0 := by
  unfold Dg.carE
  rw [hp, hB, dec_t hc, hY, hN, if_neg (by decide), if_neg (by omega)]
set_option maxRecDepth 100000 in
set_option maxHeartbeats 8000000 in
theorem law_carries (ch q nu de : Int) (A : Option Addr) (n e : Nat) (K : List ByteArray) (cc : Int) (bill : ByteArray) (AV : Option Addr) (nV eV : Nat) (l : List Dg.Vt) (w : World) (he : Env w) (hK : K.length = n) (kn : n ≤ 9223372036854775807) (hkz : ∀ s ∈ K, s.size ≤ 9223372036854775807) (hS : Strs w w.heap.size A K) (hbz : bill.size ≤ 9223372036854775807) (hl : l.length = nV) (hn : nV ≤ 9223372036854775807) (hv : ∀ v ∈ l, VtW v) (hV : Vts w w.heap.size AV l) :
    Calls Tryd.prog 8 #[.agg #[.int .i64 ch, .slice A n e, .int .i64 q, .int .i64 nu, .int .i64 de], .agg #[.int .i64 cc, .string bill, .slice AV nV eV]] w fun r w' => r = .returned (.bool true) ∧ Below w.heap.size w w' := by
  have HK := hide hK; have HKZ := hide hkz; have HL := hide hl; have HV := hide hv
  have hH : LS w.heap.size [] A K AV l w := ⟨OwnL.nil _ _, hS, hV, he⟩
  have hb := Below.refl w.heap.size w
  replace hH := hH.lit hb.size #[.int .i64 ch, .slice A n e, .int .i64 q, .int .i64 nu, .int .i64 de] 24 5 rfl (by unfold maxLen; omega)
  replace hb := bnext hb (Below.news (Below.refl w.heap.size w) (.cells #[.int .i64 ch, .slice A n e, .int .i64 q, .int .i64 nu, .int .i64 de] 24))
  replace hH := hH.lit hb.size #[.int .i64 cc, .string bill, .slice AV nV eV] 27 3 rfl (by unfold maxLen; omega)
  replace hb := bnext hb (Below.news (Below.refl (w.alloc (.cells #[.int .i64 ch, .slice A n e, .int .i64 q, .int .i64 nu, .int .i64 de] 24)).heap.size (w.alloc (.cells #[.int .i64 ch, .slice A n e, .int .i64 q, .int .i64 nu, .int .i64 de] 24))) (.cells #[.int .i64 cc, .string bill, .slice AV nV eV] 27))
  clear hK hkz hl hv hS hV he
  have hz1 : (w.alloc (.cells #[.int .i64 ch, .slice A n e, .int .i64 q, .int .i64 nu, .int .i64 de] 24)).heap.size = w.heap.size + 1 := by simp
  rw [hz1] at hH
  clear hz1
  go_enter Tryd.func8, Tryd.ntmps8
  go_wp2_with fail
  generalize ((w.alloc (.cells #[.int .i64 ch, .slice A n e, .int .i64 q, .int .i64 nu, .int .i64 de] 24)).alloc (.cells #[.int .i64 cc, .string bill, .slice AV nV eV] 27)) = W0 at *
  generalize w.heap.size + 1 = g1 at *
  refine (head39_any _ hH.env).mono ?_
  rintro r w1 ⟨rfl, hb1⟩
  replace hH := hH.below hb1
  replace hb := bnext hb hb1
  clear hb1
  obtain ⟨r0, r1, r2, r3, r4⟩ := cells5 (hH.row (List.mem_cons_of_mem _ (List.mem_cons_self ..)))
  obtain ⟨c0, c1, c2⟩ := cells3 (hH.row (List.mem_cons_self ..))
  go_wp2_with fail
  cases hfew : fewVB K l 8 with
  | false =>
    refine (few39_of ch q nu de A n e K AV nV eV l false hfew _ HK.out kn HKZ.out hH.key HL.out hn HV.out hH.vts).mono ?_
    rintro r w2 ⟨rfl, hb2⟩
    replace hH := hH.below hb2
    replace hb := bnext hb hb2
    clear hb2
    clear hfew
    go_wp2
    go_ret
    exact ⟨rfl, hb⟩
  | true =>
    have F := few_spec hfew
    have HF := hide hfew; clear hfew
    refine (few39_of ch q nu de A n e K AV nV eV l true HF.out _ HK.out kn HKZ.out hH.key HL.out hn HV.out hH.vts).mono ?_
    rintro r w2 ⟨rfl, hb2⟩
    replace hH := hH.below hb2
    replace hb := bnext hb hb2
    clear hb2
    clear r0 r1 r2 r3 r4 c0 c1 c2
    have kn2 : n ≤ 10 := by rw [← HK.out]; exact F.nk
    have hn2 : nV ≤ 8 := by rw [← HL.out]; exact F.nl
    have KZ := hide F.key
    have VZ := hide (F.vt0 HV.out)
    clear F HF HKZ HV
    obtain ⟨r0, r1, r2, r3, r4⟩ := cells5 (hH.row (List.mem_cons_of_mem _ (List.mem_cons_self ..)))
    obtain ⟨c0, c1, c2⟩ := cells3 (hH.row (List.mem_cons_self ..))
    go_wp2_with fail
    cases hp : Dg.properB ⟨ch, K, q, nu, de⟩ with
    | false =>
      refine (rproper_of ch q nu de A e n K false hp _ HK.out (by omega) KZ.out hH.key).mono ?_
      rintro r w3 ⟨rfl, hb3⟩
      replace hH := hH.below hb3
      replace hb := bnext hb hb3
      clear hb3
      clear hp
      go_wp2
      go_ret
      exact ⟨rfl, hb⟩
    | true =>
      have Hp := hide hp; clear hp
      refine (rproper_of ch q nu de A e n K true Hp.out _ HK.out (by omega) KZ.out hH.key).mono ?_
      rintro r w3 ⟨rfl, hb3⟩
      replace hH := hH.below hb3
      replace hb := bnext hb hb3
      clear hb3
      clear r0 r1 r2 r3 r4 c0 c1 c2
      obtain ⟨r0, r1, r2, r3, r4⟩ := cells5 (hH.row (List.mem_cons_of_mem _ (List.mem_cons_self ..)))
      obtain ⟨c0, c1, c2⟩ := cells3 (hH.row (List.mem_cons_self ..))
      by_cases hcc : cc = ch
      rotate_left
      · have e1 : (cc != ch) = true := bne_iff_ne.2 hcc
        have e2 : (cc == ch) = false := beq_eq_false_iff_ne.2 hcc
        clear hcc
        go_wp2
        go_ret
        exact ⟨rfl, hb⟩
      subst hcc
      have e1 : (cc != cc) = false := by rw [bne, beq_self_eq_true]; rfl
      have e2 : (cc == cc) = true := beq_self_eq_true cc
      go_wp2_with fail
      cases hB : Dg.isB bill with
      | false =>
        refine (isW_of bill false hB hbz _).mono ?_
        rintro r w4 ⟨rfl, hb4⟩
        replace hH := hH.below hb4
        replace hb := bnext hb hb4
        clear hb4
        clear hB
        go_wp2
        go_ret
        exact ⟨rfl, hb⟩
      | true =>
        have HB := hide hB; clear hB
        refine (isW_of bill true HB.out hbz _).mono ?_
        rintro r w4 ⟨rfl, hb4⟩
        replace hH := hH.below hb4
        replace hb := bnext hb hb4
        clear hb4
        clear r0 r1 r2 r3 r4 c0 c1 c2
        obtain ⟨r0, r1, r2, r3, r4⟩ := cells5 (hH.row (List.mem_cons_of_mem _ (List.mem_cons_self ..)))
        obtain ⟨c0, c1, c2⟩ := cells3 (hH.row (List.mem_cons_self ..))
        clear e1 e2
        go_wp2_with fail
        obtain ⟨Y, hY⟩ : ∃ Y, (Dg.cnt ⟨cc, K, q, nu, de⟩ bill l).yes = Y := ⟨_, rfl⟩
        obtain ⟨X, hX⟩ : ∃ X, (Dg.cnt ⟨cc, K, q, nu, de⟩ bill l).no = X := ⟨_, rfl⟩
        obtain ⟨Bd, hBd⟩ : ∃ Bd, (Dg.cnt ⟨cc, K, q, nu, de⟩ bill l).bad.map Int.ofNat = Bd := ⟨_, rfl⟩
        have hsum := cnt_sum ⟨cc, K, q, nu, de⟩ bill l
        rw [hY, hX, HL.out] at hsum
        have hs8 : Y + X ≤ 8 := by omega
        clear hsum
        have hE := carE_eq ⟨cc, K, q, nu, de⟩ cc bill l Hp.out rfl HB.out (by rw [HL.out]; exact hn2) Y X hY hX
        have HY := hide hY; have HX := hide hX; have HBd := hide hBd; have HE := hide hE; clear hY hX hBd hE
        refine (counted_of cc q nu de A n e K bill AV nV eV l _ hH.env HK.out (by omega) KZ.out hH.key HL.out (by omega) VZ.out hH.vts (Y : Int) (X : Int) Bd (by rw [HY.out]) (by rw [HX.out]) HBd.out _ rfl).mono ?_
        rintro r w5 ⟨Ab, cb, rfl, hNm, hb5⟩
        replace hH := hH.below hb5
        replace hb := bnext hb hb5
        clear hb5
        clear r0 r1 r2 r3 r4 c0 c1 c2
        obtain ⟨r0, r1, r2, r3, r4⟩ := cells5 (hH.row (List.mem_cons_of_mem _ (List.mem_cons_self ..)))
        obtain ⟨c0, c1, c2⟩ := cells3 (hH.row (List.mem_cons_self ..))
        go_wp2_with fail
        refine (carried_of cc q nu de A n e K cc bill AV nV eV l _ hH.env HK.out (by omega) KZ.out hH.key HL.out (by omega) VZ.out hH.vts hbz _ HE.out).mono ?_
        rintro r w6 ⟨rfl, hb6⟩
        replace hH := hH.below hb6
        replace hb := bnext hb hb6
        clear hb6
        clear r0 r1 r2 r3 r4 c0 c1 c2
        obtain ⟨r0, r1, r2, r3, r4⟩ := cells5 (hH.row (List.mem_cons_of_mem _ (List.mem_cons_self ..)))
        obtain ⟨c0, c1, c2⟩ := cells3 (hH.row (List.mem_cons_self ..))
        have hnum := Dg.properB_num Hp.out
        have q0 : 0 ≤ nu := hnum.1
        have q1 : nu < de := hnum.2.1
        have q2 : de ≤ 60 := hnum.2.2
        clear hnum
        have p0 : 0 ≤ (Y : Int) * de := Int.mul_nonneg (by omega) (by omega)
        have p1 : (Y : Int) * de ≤ 8 * 60 := Int.mul_le_mul (by omega) q2 (by omega) (by decide)
        have p2 : 0 ≤ nu * ((Y : Int) + (X : Int)) := Int.mul_nonneg (by omega) (by omega)
        have p3 : nu * ((Y : Int) + (X : Int)) ≤ 60 * 8 := Int.mul_le_mul (by omega) (by omega) (by omega) (by decide)
        have hcm : de * (Y : Int) = (Y : Int) * de := Int.mul_comm _ _
        generalize hEE : (if ((Y : Nat) : Int) + (X : Nat) < (⟨cc, K, q, nu, de⟩ : Dg.Rl).quo then (20 : Int) else if (⟨cc, K, q, nu, de⟩ : Dg.Rl).den * (Y : Nat) ≤ (⟨cc, K, q, nu, de⟩ : Dg.Rl).num * (((Y : Nat) : Int) + (X : Nat)) then 12 else 0) = E at *
        replace hEE : (if (Y : Int) + (X : Int) < q then (20 : Int) else if (Y : Int) * de ≤ nu * ((Y : Int) + (X : Int)) then 12 else 0) = E := by rw [← hEE, hcm]
        clear HE hcm
        by_cases hq : (Y : Int) + (X : Int) < q
        · obtain rfl : E = 20 := by rw [← hEE, if_pos hq]
          have d1 : decide (q ≤ (Y : Int) + (X : Int)) = false := dec_f (by omega)
          clear hEE hq
          by_cases hm : (Y : Int) * de ≤ nu * ((Y : Int) + (X : Int))
          · have d2 : decide (nu * ((Y : Int) + (X : Int)) < (Y : Int) * de) = false := dec_f (by omega)
            clear hm
            go_wp2
            go_ret
            exact ⟨rfl, hb⟩
          · have d2 : decide (nu * ((Y : Int) + (X : Int)) < (Y : Int) * de) = true := dec_t (by omega)
            clear hm
            go_wp2
            go_ret
            exact ⟨rfl, hb⟩
        · by_cases hm : (Y : Int) * de ≤ nu * ((Y : Int) + (X : Int))
          · obtain rfl : E = 12 := by rw [← hEE, if_neg hq, if_pos hm]
            have d1 : decide (q ≤ (Y : Int) + (X : Int)) = true := dec_t (by omega)
            have d2 : decide (nu * ((Y : Int) + (X : Int)) < (Y : Int) * de) = false := dec_f (by omega)
            clear hm hq hEE
            go_wp2
            go_ret
            exact ⟨rfl, hb⟩
          · obtain rfl : E = 0 := by rw [← hEE, if_neg hq, if_neg hm]
            have d1 : decide (q ≤ (Y : Int) + (X : Int)) = true := dec_t (by omega)
            have d2 : decide (nu * ((Y : Int) + (X : Int)) < (Y : Int) * de) = true := dec_t (by omega)
            clear hm hq hEE
            go_wp2
            go_ret
            exact ⟨rfl, hb⟩
end Go.Proofs.YtgncahnkkpjdpaaDoor

