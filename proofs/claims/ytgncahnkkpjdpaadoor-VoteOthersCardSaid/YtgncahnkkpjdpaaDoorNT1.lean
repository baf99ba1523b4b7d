/- Walks and laws of this seat, several texts in one: VT. No conditions but those that each theorem states. -/
import Derived.Test.YtgncahnkkpjdpaaDoorNA5
/- VoteOthers. No conditions but those that each theorem states. -/
namespace Go.Proofs.YtgncahnkkpjdpaaDoor
open Go Go.RowKit Go.Sort Go.Maps
set_option maxRecDepth 100000 in
set_option maxHeartbeats 8000000 in
theorem law_others (ch q nu de : Int) (A : Option Addr) (n e : Nat) (K : List ByteArray) (text : ByteArray) (AV : Option Addr) (nV eV : Nat) (l : List Dg.Vt) (w : World) (he : Env w) (hK : K.length = n) (kn : n ≤ 9223372036854775807) (hkz : ∀ s ∈ K, s.size ≤ 9223372036854775807) (hS : Strs w w.heap.size A K) (htz : text.size ≤ 9223372036854775807) (hl : l.length = nV) (hn : nV ≤ 9223372036854775807) (hv : ∀ v ∈ l, VtW v) (hV : Vts w w.heap.size AV l) :
    Calls Tryd.prog 5 #[.agg #[.int .i64 ch, .slice A n e, .int .i64 q, .int .i64 nu, .int .i64 de], .string text, .slice AV nV eV] w fun r w' => r = .returned (.bool true) ∧ Below w.heap.size w w' := by
  have HK := hide hK; have HKZ := hide hkz; have HL := hide hl; have HV := hide hv
  have hH : LS w.heap.size [] A K AV l w := ⟨OwnL.nil _ _, hS, hV, he⟩
  have hb := Below.refl w.heap.size w
  replace hH := hH.lit hb.size #[.int .i64 ch, .slice A n e, .int .i64 q, .int .i64 nu, .int .i64 de] 24 5 rfl (by unfold maxLen; omega)
  replace hb := bnext hb (Below.news (Below.refl w.heap.size w) (.cells #[.int .i64 ch, .slice A n e, .int .i64 q, .int .i64 nu, .int .i64 de] 24))
  clear hK hkz hl hv hS hV he
  go_enter Tryd.func5, Tryd.ntmps5
  go_wp2_with fail
  generalize (w.alloc (.cells #[.int .i64 ch, .slice A n e, .int .i64 q, .int .i64 nu, .int .i64 de] 24)) = W0 at *
  refine (head39_any _ hH.env).mono ?_
  rintro r w1 ⟨rfl, hb1⟩
  replace hH := hH.below hb1
  replace hb := bnext hb hb1
  clear hb1
  obtain ⟨r0, r1, r2, r3, r4⟩ := cells5 (hH.row (List.mem_cons_self ..))
  go_wp2_with fail
  cases hfew : fewVB K l 8 with
  | false =>
    refine (few39_of ch q nu de A n e K AV nV eV l false hfew _ HK.out kn HKZ.out hH.key HL.out hn HV.out hH.vts).mono ?_
    rintro r w2 ⟨rfl, hb2⟩
    replace hH := hH.below hb2
    replace hb := bnext hb hb2
    clear hb2
    clear hfew
    go_wp2
    go_ret
    exact ⟨rfl, hb⟩
  | true =>
    have F := few_spec hfew
    have HF := hide hfew; clear hfew
    refine (few39_of ch q nu de A n e K AV nV eV l true HF.out _ HK.out kn HKZ.out hH.key HL.out hn HV.out hH.vts).mono ?_
    rintro r w2 ⟨rfl, hb2⟩
    replace hH := hH.below hb2
    replace hb := bnext hb hb2
    clear hb2
    clear r0 r1 r2 r3 r4
    have kn2 : n ≤ 10 := by rw [← HK.out]; exact F.nk
    have hn2 : nV ≤ 8 := by rw [← HL.out]; exact F.nl
    have KZ := hide F.key
    have VZ := hide (F.vt0 HV.out)
    clear F HF HKZ HV
    obtain ⟨r0, r1, r2, r3, r4⟩ := cells5 (hH.row (List.mem_cons_self ..))
    by_cases h100 : text.size ≤ 100
    rotate_left
    · have d1 : decide ((100 : Int) < (text.size : Int)) = true := dec_t (by omega)
      have d2 : decide (100 < text.size) = true := dec_t (by omega)
      clear h100
      go_wp2
      go_ret
      exact ⟨rfl, hb⟩
    have d1 : decide ((100 : Int) < (text.size : Int)) = false := dec_f (by omega)
    have d2 : decide (100 < text.size) = false := dec_f (by omega)
    go_wp2_with fail
    obtain ⟨Y, hY⟩ : ∃ Y, (Dg.cnt ⟨ch, K, q, nu, de⟩ text l).yes = Y := ⟨_, rfl⟩
    obtain ⟨X, hX⟩ : ∃ X, (Dg.cnt ⟨ch, K, q, nu, de⟩ text l).no = X := ⟨_, rfl⟩
    obtain ⟨Bd, hBd⟩ : ∃ Bd, (Dg.cnt ⟨ch, K, q, nu, de⟩ text l).bad = Bd := ⟨_, rfl⟩
    have hsum := cnt_sum ⟨ch, K, q, nu, de⟩ text l
    rw [hY, hX, hBd, HL.out] at hsum
    have HY := hide hY; have HX := hide hX; have HBd := hide hBd; clear hY hX hBd
    have hbl : (Bd.map Int.ofNat).length = Bd.length := List.length_map _
    refine (counted_of ch q nu de A n e K text AV nV eV l _ hH.env HK.out (by omega) KZ.out hH.key HL.out (by omega) VZ.out hH.vts (Y : Int) (X : Int) (Bd.map Int.ofNat) (by rw [HY.out]) (by rw [HX.out]) (by rw [HBd.out]) Bd.length hbl).mono ?_
    rintro r w5 ⟨Ab, cb, rfl, hNm, hb5⟩
    replace hH := hH.below hb5
    replace hb := bnext hb hb5
    clear hb5
    clear r0 r1 r2 r3 r4
    clear d1 d2 h100
    generalize hbn : Bd.length = bn at *
    go_wp2_with fail
    go_loopw [11, 12, 13] (fun bv kv iv wr => ∃ (m : Nat) (cs : List VtC), m ≤ nV ∧ iv = .int .i64 ((m : Int) - 1) ∧ kv = .int .i64 (((Dg.cntP ⟨ch, K, q, nu, de⟩ text l m).bad.length : Int) - 1) ∧ OwnC wr w5.heap.size bv cs ∧ Below w5.heap.size w5 wr ∧ Hid (Dg.good ⟨ch, K, q, nu, de⟩ text l m ++ (cs.map VtC.v).reverse = Dg.good ⟨ch, K, q, nu, de⟩ text l nV) ∧ Hid (∀ c ∈ cs, VtIn w5 w5.heap.size c.v c.A1 c.A2 c.e1 c.e2) ∧ cs.length + m ≤ nV) (fun _ _ iv _ => (intOf iv + 1).toNat)
    case atStart =>
      refine ⟨nV, [], Nat.le_refl _, rfl, ?_, OwnC.nil _ _, Below.refl _ _, ?_, ?_, by simp⟩
      · rw [← HL.out, ← Dg.cnt_P, HBd.out, hbn]
      · show Dg.good _ _ _ nV ++ [] = _; rw [List.append_nil]
      · intro c hc; cases hc
    case round =>
      obtain ⟨m, cs, hm, rfl, rfl, hO, hbr, hgd, hin, hcl⟩ := hrel
      by_cases h0 : m = 0
      rotate_left
      · obtain ⟨j, rfl⟩ : ∃ j, m = j + 1 := ⟨m - 1, by omega⟩
        rw [show (((j + 1 : Nat) : Int) - 1) = (j : Int) by omega]
        have hj : j < nV := by omega
        have hjl : j < l.length := by rw [HL.out]; exact hj
        have hj0 : (0 : Int) ≤ (j : Int) := by omega
        have hjn : (j : Int) < (nV : Int) := by omega
        obtain ⟨b, off, rfl, hbl2, A1, A2, e1, e2, hvin, hcc⟩ := hH.vts.get hjl
        have hNr := hNm.keep hbr
        cases hok : Dg.okP ⟨ch, K, q, nu, de⟩ text l j with
        | false =>
          obtain ⟨ht1, ht2⟩ := Dg.bad_at ⟨ch, K, q, nu, de⟩ text l j hjl hok
          have hg2 := Dg.good_bad ⟨ch, K, q, nu, de⟩ text l j hok
          rw [ht2, List.length_append, List.length_singleton]
          rw [HBd.out] at ht1
          generalize ht : (Dg.cntP ⟨ch, K, q, nu, de⟩ text l j).bad.length = t at *
          have hT := hide ht
          clear ht ht2
          have htl : t < bn := by rw [← hbn]; exact (List.getElem?_eq_some_iff.1 ht1).1
          obtain ⟨b', off', rfl, hb', hcell⟩ := hNr.get (k := t) (by rw [hbl]; exact htl)
          have hval : (Bd.map Int.ofNat)[t]'(by rw [List.length_map, hbn]; exact htl) = (j : Int) := by
            have h1 : (Bd.map Int.ofNat)[t]? = some (j : Int) := by rw [List.getElem?_map, ht1]; rfl
            exact (List.getElem?_eq_some_iff.1 h1).2
          rw [hval] at hcell
          have ht0 : (0 : Int) ≤ (t : Int) := by omega
          have htn : (t : Int) < (bn : Int) := by omega
          have heq : ((j : Int) == (j : Int)) = true := beq_self_eq_true _
          rw [show (((t + 1 : Nat) : Int) - 1) = (t : Int) by omega]
          have hgd2 : Hid (Dg.good ⟨ch, K, q, nu, de⟩ text l j ++ (cs.map VtC.v).reverse = Dg.good ⟨ch, K, q, nu, de⟩ text l nV) := by unfold Hid; rw [← hg2]; exact hgd.out
          clear hval ht1 hok hg2 hgd hcc
          go_wp2
          go_roundw
          case rel => exact ⟨j, cs, by omega, rfl, by rw [hT.out], hO, hbr, hgd2, hin, by omega⟩
          case measure => simp [intOf]
        | true =>
          have hst := Dg.cntP_ok ⟨ch, K, q, nu, de⟩ text l j hjl hok
          have hbb : (Dg.cntP ⟨ch, K, q, nu, de⟩ text l (j + 1)).bad = (Dg.cntP ⟨ch, K, q, nu, de⟩ text l j).bad := by rw [hst]
          have hg2 := Dg.good_ok ⟨ch, K, q, nu, de⟩ text l j hjl hok
          have hno := hide (Dg.bad_not ⟨ch, K, q, nu, de⟩ text l j hok)
          rw [hbb]
          have hpre : (Dg.cntP ⟨ch, K, q, nu, de⟩ text l j).bad.length ≤ bn := by
            obtain ⟨R, hR, _⟩ := Dg.bad_split ⟨ch, K, q, nu, de⟩ text l j l.length (by omega) (Nat.le_refl _)
            rw [← Dg.cnt_P, HBd.out] at hR
            rw [← hbn, hR, List.length_append]; omega
          have hgd2 : Hid (∀ c : VtC, c.v = l[j] → Dg.good ⟨ch, K, q, nu, de⟩ text l j ++ ((cs ++ [c]).map VtC.v).reverse = Dg.good ⟨ch, K, q, nu, de⟩ text l nV) := by
            intro c hc
            rw [← hgd.out, hg2, List.map_append, List.reverse_append, List.append_assoc]
            simp [hc]
          generalize hvj : l[j] = v at *
          have HVj := hide hvj
          clear hok hst hbb hg2 hgd hvj
          have hcj := fun i u hu => (hbr.cell (p := ⟨b, off + j * 7 + i, none⟩) hbl2).trans (hcc i u hu)
          have p0 : wr.cell? ⟨b, off + j * 7, none⟩ = some (.int .i64 v.mem) := hcj 0 _ rfl
          have p1 : wr.cell? ⟨b, off + j * 7 + 1, none⟩ = some (.string v.bill) := hcj 1 _ rfl
          have p2 : wr.cell? ⟨b, off + j * 7 + 2, none⟩ = some (.int .i64 v.cham) := hcj 2 _ rfl
          have p3 : wr.cell? ⟨b, off + j * 7 + 3, none⟩ = some (.bool v.yes) := hcj 3 _ rfl
          have p4 : wr.cell? ⟨b, off + j * 7 + 4, none⟩ = some (.int .i64 v.idx) := hcj 4 _ rfl
          have p5 : wr.cell? ⟨b, off + j * 7 + 5, none⟩ = some (.slice A1 v.sig.length e1) := hcj 5 _ rfl
          have p6 : wr.cell? ⟨b, off + j * 7 + 6, none⟩ = some (.slice A2 v.path.length e2) := hcj 6 _ rfl
          clear hcj hcc
          generalize ht : (Dg.cntP ⟨ch, K, q, nu, de⟩ text l j).bad.length = t at *
          have hT := hide ht
          clear ht
          have hx := Below.news (Below.refl wr.heap.size wr) (.cells #[.int .i64 v.mem, .string v.bill, .int .i64 v.cham, .bool v.yes, .int .i64 v.idx, .slice A1 v.sig.length e1, .slice A2 v.path.length e2] 33)
          have hO1 := hO.below hx
          have hs1 := hbr.size
          have hs2 := hx.size
          have hsrc : ∀ (i : Nat) u, (([⟨v, A1, A2, e1, e2⟩] : List VtC).flatMap VtC.cells)[i]? = some u → (wr.alloc (.cells #[.int .i64 v.mem, .string v.bill, .int .i64 v.cham, .bool v.yes, .int .i64 v.idx, .slice A1 v.sig.length e1, .slice A2 v.path.length e2] 33)).cell? (Addr.add ⟨wr.heap.size, 0, none⟩ i) = some u := fun i u hu => by
            rw [add_plain, cell_of_row _ _ _ _ _ (0, 0) (heap_alloc_new wr _), Nat.zero_add, ← Array.getElem?_toList]
            exact hu
          have hlen1 : cs.length + 1 ≤ 1099511627776 := by omega
          have hB1 : w5.heap.size ≤ (wr.alloc (.cells #[.int .i64 v.mem, .string v.bill, .int .i64 v.cham, .bool v.yes, .int .i64 v.idx, .slice A1 v.sig.length e1, .slice A2 v.path.length e2] 33)).heap.size := by omega
          have hin2 : Hid (∀ c ∈ cs ++ [⟨v, A1, A2, e1, e2⟩], VtIn w5 w5.heap.size c.v c.A1 c.A2 c.e1 c.e2) := fun c hc => by
            rcases List.mem_append.1 hc with h | h
            · exact hin.out c h
            · obtain rfl := List.mem_singleton.1 h
              exact hvin
          by_cases ht0 : t = 0
          · subst ht0
            have f1 : decide ((0 : Int) ≤ ((0 : Nat) : Int) - 1) = false := by decide
            go_wp2_with (at_builtin; refine step_ac rfl (.tmp 64) (.tmp 69) rfl w5.heap.size _ cs [⟨v, A1, A2, e1, e2⟩] rfl hO1 _ 1 1 rfl rfl hsrc hlen1 hB1 ?_; intro v2 w2 hO2 hb2)
            go_roundw
            case rel => exact ⟨j, cs ++ [⟨v, A1, A2, e1, e2⟩], by omega, rfl, by rw [hT.out]; rfl, hO2, ((hbr.trans (hx.mono hs1)).trans hb2), hide (hgd2.out ⟨v, A1, A2, e1, e2⟩ rfl), hin2, by rw [List.length_append, List.length_singleton]; omega⟩
            case measure => simp [intOf]
          · obtain ⟨s, rfl⟩ : ∃ s, t = s + 1 := ⟨t - 1, by omega⟩
            rw [show (((s + 1 : Nat) : Int) - 1) = (s : Int) by omega]
            have hsl : s < bn := by omega
            obtain ⟨b', off', rfl, hb', hcell⟩ := hNr.get (k := s) (by rw [hbl]; exact hsl)
            obtain ⟨x, hx2⟩ : ∃ x : Int, (Bd.map Int.ofNat)[s]'(by rw [List.length_map, hbn]; exact hsl) = x := ⟨_, rfl⟩
            rw [hx2] at hcell
            have hxj : (x == (j : Int)) = false := by
              refine beq_eq_false_iff_ne.2 fun e => ?_
              have h1 : (Bd.map Int.ofNat)[s]? = some (j : Int) := List.getElem?_eq_some_iff.2 ⟨_, hx2.trans e⟩
              rw [List.getElem?_map] at h1
              cases hq : Bd[s]? with
              | none => rw [hq] at h1; cases h1
              | some y =>
                rw [hq] at h1
                have h2 : Int.ofNat y = (j : Int) := by simpa using h1
                have h3 : y = j := by have : (y : Int) = (j : Int) := h2; omega
                subst h3
                exact hno.out s (by rw [HBd.out]; exact hq)
            have hs0 : (0 : Int) ≤ (s : Int) := by omega
            have hsn : (s : Int) < (bn : Int) := by omega
            clear hx2
            go_wp2_with (at_builtin; refine step_ac rfl (.tmp 64) (.tmp 69) rfl w5.heap.size _ cs [⟨v, A1, A2, e1, e2⟩] rfl hO1 _ 1 1 rfl rfl hsrc hlen1 hB1 ?_; intro v2 w2 hO2 hb2)
            go_roundw
            case rel => exact ⟨j, cs ++ [⟨v, A1, A2, e1, e2⟩], by omega, rfl, by rw [hT.out]; congr 1; omega, hO2, ((hbr.trans (hx.mono hs1)).trans hb2), hide (hgd2.out ⟨v, A1, A2, e1, e2⟩ rfl), hin2, by rw [List.length_append, List.length_singleton]; omega⟩
            case measure => simp [intOf]
      · subst h0
        have hBr : (cs.map VtC.v).reverse = Dg.good ⟨ch, K, q, nu, de⟩ text l l.length := by rw [HL.out]; exact hgd.out
        obtain ⟨b1, b2, b3⟩ := Dg.back_count ⟨ch, K, q, nu, de⟩ text l (cs.map VtC.v) hBr
        rw [HY.out] at b1
        rw [HX.out] at b2
        have VZ2 := hide (show ∀ v ∈ cs.map VtC.v, Vt0 v from fun v hv => by
          have h1 := List.mem_reverse.2 hv
          rw [hBr] at h1
          exact VZ.out v (Dg.good_mem _ _ _ _ v h1))
        have H1 := hide b1; have H2 := hide b2; have H3 := hide b3
        clear b1 b2 b3 hBr hgd
        replace hH := hH.below hbr
        replace hb := bnext hb hbr
        obtain ⟨A3, c3, rfl, hV3, hc3⟩ := hO.vts (fun c hc => (hin.out c hc).keep hbr)
        have hcl2 : cs.length ≤ 8 := by omega
        clear hO hin hbr
        obtain ⟨r0, r1, r2, r3, r4⟩ := cells5 (hH.row (List.mem_cons_self ..))
        have hml := hide (show (cs.map VtC.v).length = cs.length from List.length_map _)
        generalize cs.map VtC.v = BB at *
        generalize cs.length = nB at *
        go_wp2_with fail
        refine (counted_of ch q nu de A n e K text A3 nB c3 BB _ hH.env HK.out (by omega) KZ.out hH.key hml.out (by omega) VZ2.out hV3 (Y : Int) (X : Int) [] (by rw [H1.out]) (by rw [H2.out]) (by rw [H3.out]; rfl) 0 rfl).mono ?_
        rintro r w6 ⟨Ac, cc, rfl, hNm2, hb6⟩
        replace hb := bnext hb hb6
        have f1 : ((Y : Int) == (Y : Int)) = true := beq_self_eq_true _
        have f2 : ((X : Int) == (X : Int)) = true := beq_self_eq_true _
        go_wp2
        go_ret
        exact ⟨rfl, hb⟩
end Go.Proofs.YtgncahnkkpjdpaaDoor

