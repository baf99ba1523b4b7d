/- Walks and laws of this seat, several texts in one: VY. No conditions but those that each theorem states. -/
import Derived.Test.YtgncahnkkpjdpaaDoorNA5
/- VoteMany. No conditions but those that each theorem states. -/
namespace Go.Proofs.YtgncahnkkpjdpaaDoor
open Go Go.RowKit Go.Sort Go.Maps
theorem Dg.car_none (r : Dg.Rl) (cc : Int) (bill : ByteArray) (L : List Dg.Vt) (h : ∀ v ∈ L, v.mem < 0) : Dg.carE r cc bill L = 1 ∨ (Dg.carE r cc bill L = 2 ∧ 120 < L.length) ∨ (Dg.carE r cc bill L = 20 ∧ L.length ≤ 120) := by
  obtain ⟨h1, h2⟩ := Dg.none_count r bill L h L.length (Nat.le_refl _)
  rw [← Dg.cnt_P] at h1 h2
  unfold Dg.carE
  rw [h1, h2]
  cases hg : (Dg.properB r && (decide (cc = r.cham) && Dg.isB bill)) with
  | false => rw [if_pos rfl]; exact Or.inl rfl
  | true =>
    rw [if_neg (by decide)]
    have hp : Dg.properB r = true := by rw [Bool.and_eq_true] at hg; exact hg.1
    have hq : 1 ≤ r.quo := by
      unfold Dg.properB at hp
      simp only [Bool.and_eq_true, decide_eq_true_eq] at hp
      exact hp.2.2.2.1
    by_cases h120 : 120 < L.length
    · rw [if_pos h120]; exact Or.inr (Or.inl ⟨rfl, h120⟩)
    · rw [if_neg h120, if_pos (by omega)]; exact Or.inr (Or.inr ⟨rfl, by omega⟩)
set_option maxRecDepth 100000 in
set_option maxHeartbeats 8000000 in
theorem law_many (ch q nu de : Int) (A : Option Addr) (n e : Nat) (K : List ByteArray) (cc : Int) (bill : ByteArray) (AV : Option Addr) (nV eV : Nat) (l : List Dg.Vt) (raw : Nat) (w : World) (he : Env w) (hK : K.length = n) (kn : n ≤ 9223372036854775807) (hkz : ∀ s ∈ K, s.size ≤ 9223372036854775807) (hS : Strs w w.heap.size A K) (hbz : bill.size ≤ 9223372036854775807) (hl : l.length = nV) (hn : nV ≤ 9223372036854775807) (hv : ∀ v ∈ l, VtW v) (hV : Vts w w.heap.size AV l) (hraw : raw ≤ 255) :
    Calls Tryd.prog 3 #[.agg #[.int .i64 ch, .slice A n e, .int .i64 q, .int .i64 nu, .int .i64 de], .agg #[.int .i64 cc, .string bill, .slice AV nV eV], .int .u8 raw] w fun r w' => r = .returned (.bool true) ∧ Below w.heap.size w w' := by
  have HK := hide hK; have HKZ := hide hkz; have HL := hide hl; have HV := hide hv
  have hH : LS w.heap.size [] A K AV l w := ⟨OwnL.nil _ _, hS, hV, he⟩
  have hb := Below.refl w.heap.size w
  replace hH := hH.lit hb.size #[.int .i64 ch, .slice A n e, .int .i64 q, .int .i64 nu, .int .i64 de] 24 5 rfl (by unfold maxLen; omega)
  replace hb := bnext hb (Below.news (Below.refl w.heap.size w) (.cells #[.int .i64 ch, .slice A n e, .int .i64 q, .int .i64 nu, .int .i64 de] 24))
  replace hH := hH.lit hb.size #[.int .i64 cc, .string bill, .slice AV nV eV] 27 3 rfl (by unfold maxLen; omega)
  replace hb := bnext hb (Below.news (Below.refl (w.alloc (.cells #[.int .i64 ch, .slice A n e, .int .i64 q, .int .i64 nu, .int .i64 de] 24)).heap.size (w.alloc (.cells #[.int .i64 ch, .slice A n e, .int .i64 q, .int .i64 nu, .int .i64 de] 24))) (.cells #[.int .i64 cc, .string bill, .slice AV nV eV] 27))
  clear hK hkz hl hv hS hV he
  have hz1 : (w.alloc (.cells #[.int .i64 ch, .slice A n e, .int .i64 q, .int .i64 nu, .int .i64 de] 24)).heap.size = w.heap.size + 1 := by simp
  rw [hz1] at hH
  clear hz1
  obtain ⟨N, hN⟩ : ∃ N : Nat, 110 + raw % 20 = N := ⟨_, rfl⟩
  have eN : 110 + (raw : Int) % 20 = (N : Int) := by omega
  have hN1 : N ≤ 129 := by omega
  clear hN
  go_enter Tryd.func3, Tryd.ntmps3
  go_wp2_with fail
  generalize ((w.alloc (.cells #[.int .i64 ch, .slice A n e, .int .i64 q, .int .i64 nu, .int .i64 de] 24)).alloc (.cells #[.int .i64 cc, .string bill, .slice AV nV eV] 27)) = W0 at *
  generalize w.heap.size + 1 = g1 at *
  refine (head39_any _ hH.env).mono ?_
  rintro r w1 ⟨rfl, hb1⟩
  replace hH := hH.below hb1
  replace hb := bnext hb hb1
  clear hb1
  obtain ⟨r0, r1, r2, r3, r4⟩ := cells5 (hH.row (List.mem_cons_of_mem _ (List.mem_cons_self ..)))
  obtain ⟨c0, c1, c2⟩ := cells3 (hH.row (List.mem_cons_self ..))
  go_wp2_with fail
  cases hfew : fewVB K l 8 with
  | false =>
    refine (few39_of ch q nu de A n e K AV nV eV l false hfew _ HK.out kn HKZ.out hH.key HL.out hn HV.out hH.vts).mono ?_
    rintro r w2 ⟨rfl, hb2⟩
    replace hH := hH.below hb2
    replace hb := bnext hb hb2
    clear hb2
    clear hfew
    go_wp2
    go_ret
    exact ⟨rfl, hb⟩
  | true =>
    have F := few_spec hfew
    have HF := hide hfew; clear hfew
    refine (few39_of ch q nu de A n e K AV nV eV l true HF.out _ HK.out kn HKZ.out hH.key HL.out hn HV.out hH.vts).mono ?_
    rintro r w2 ⟨rfl, hb2⟩
    replace hH := hH.below hb2
    replace hb := bnext hb hb2
    clear hb2
    clear r0 r1 r2 r3 r4 c0 c1 c2
    have kn2 : n ≤ 10 := by rw [← HK.out]; exact F.nk
    have hn2 : nV ≤ 8 := by rw [← HL.out]; exact F.nl
    have KZ := hide F.key
    have VZ := hide (F.vt0 HV.out)
    clear F HF HKZ HV
    obtain ⟨r0, r1, r2, r3, r4⟩ := cells5 (hH.row (List.mem_cons_of_mem _ (List.mem_cons_self ..)))
    obtain ⟨c0, c1, c2⟩ := cells3 (hH.row (List.mem_cons_self ..))
    by_cases h2 : nV ≤ 2
    rotate_left
    · have d1 : decide ((2 : Int) < (nV : Int)) = true := dec_t (by omega)
      have d2 : decide (2 < nV) = true := dec_t (by omega)
      clear h2
      go_wp2
      go_ret
      exact ⟨rfl, hb⟩
    have d1 : decide ((2 : Int) < (nV : Int)) = false := dec_f (by omega)
    have d2 : decide (2 < nV) = false := dec_f (by omega)
    go_wp2_with fail
    clear d1 d2
    clear r0 r1 r2 r3 r4 c0 c1 c2
    go_loopw [9, 10, 11] (fun lv iv pv wr => ∃ (i : Nat) (cs : List VtC), i ≤ N ∧ iv = .int .i64 (i : Int) ∧ OwnC wr w2.heap.size lv cs ∧ cs.length = i ∧ Below w2.heap.size w2 wr ∧ Hid (∀ c ∈ cs, VtIn w2 w2.heap.size c.v c.A1 c.A2 c.e1 c.e2 ∧ Vt0 c.v ∧ c.v.mem < 0)) (fun _ iv _ _ => N - (intOf iv).toNat)
    case atStart => exact ⟨0, [], by omega, rfl, OwnC.nil _ _, rfl, Below.refl _ _, fun c hc => by cases hc⟩
    case round =>
      obtain ⟨i, cs, hi, rfl, hO, hcl, hbr, hcs⟩ := hrel
      have hHr := hH.below hbr
      obtain ⟨r0, r1, r2, r3, r4⟩ := cells5 (hHr.row (List.mem_cons_of_mem _ (List.mem_cons_self ..)))
      obtain ⟨c0, c1, c2⟩ := cells3 (hHr.row (List.mem_cons_self ..))
      by_cases hlt : i < N
      rotate_left
      · have e1 : decide ((i : Int) < (N : Int)) = false := dec_f (by omega)
        replace hH := hHr
        replace hb := bnext hb hbr
        obtain ⟨A3, c3, rfl, hV3, hc3⟩ := hO.vts (fun c hc => (hcs.out c hc).1.keep hbr)
        have hml := hide (show (cs.map VtC.v).length = i by rw [List.length_map, hcl])
        have VZ3 := hide (show ∀ v ∈ cs.map VtC.v, Vt0 v from fun v hv => by obtain ⟨c, hc, rfl⟩ := List.mem_map.1 hv; exact (hcs.out c hc).2.1)
        have hneg : ∀ v ∈ cs.map VtC.v, v.mem < 0 := fun v hv => by obtain ⟨c, hc, rfl⟩ := List.mem_map.1 hv; exact (hcs.out c hc).2.2
        have hcar := Dg.car_none ⟨ch, K, q, nu, de⟩ cc bill (cs.map VtC.v) hneg
        rw [hml.out] at hcar
        rw [hcl]
        clear hneg hcs hO
        generalize cs.map VtC.v = BB at *
        obtain ⟨E, hE⟩ : ∃ E, Dg.carE ⟨ch, K, q, nu, de⟩ cc bill BB = E := ⟨_, rfl⟩
        rw [hE] at hcar
        have HE := hide hE; clear hE
        go_wp2_with fail
        refine (carried_of ch q nu de A n e K cc bill A3 i c3 BB _ hH.env HK.out (by omega) KZ.out hH.key hml.out (by omega) VZ3.out hV3 hbz E HE.out).mono ?_
        rintro r w6 ⟨rfl, hb6⟩
        replace hb := bnext hb hb6
        clear HE
        rcases hcar with rfl | ⟨rfl, hq⟩ | ⟨rfl, hq⟩
        · go_wp2
          go_ret
          exact ⟨rfl, hb⟩
        · have f1 : decide ((120 : Int) < (i : Int)) = true := dec_t (by omega)
          have f2 : decide (120 < i) = true := dec_t (by omega)
          go_wp2
          go_ret
          exact ⟨rfl, hb⟩
        · have f1 : decide ((120 : Int) < (i : Int)) = false := dec_f (by omega)
          have f2 : decide (120 < i) = false := dec_f (by omega)
          go_wp2
          go_ret
          exact ⟨rfl, hb⟩
      by_cases h0 : 0 < nV
      rotate_left
      · have e1 : decide ((i : Int) < (N : Int)) = true := dec_t (by omega)
        have e2 : decide ((0 : Int) < (nV : Int)) = false := dec_f (by omega)
        have e3 : decide (0 < nV) = false := dec_f (by omega)
        replace hH := hHr
        replace hb := bnext hb hbr
        obtain ⟨A3, c3, rfl, hV3, hc3⟩ := hO.vts (fun c hc => (hcs.out c hc).1.keep hbr)
        have hml := hide (show (cs.map VtC.v).length = i by rw [List.length_map, hcl])
        have VZ3 := hide (show ∀ v ∈ cs.map VtC.v, Vt0 v from fun v hv => by obtain ⟨c, hc, rfl⟩ := List.mem_map.1 hv; exact (hcs.out c hc).2.1)
        have hneg : ∀ v ∈ cs.map VtC.v, v.mem < 0 := fun v hv => by obtain ⟨c, hc, rfl⟩ := List.mem_map.1 hv; exact (hcs.out c hc).2.2
        have hcar := Dg.car_none ⟨ch, K, q, nu, de⟩ cc bill (cs.map VtC.v) hneg
        rw [hml.out] at hcar
        rw [hcl]
        clear hneg hcs hO
        generalize cs.map VtC.v = BB at *
        obtain ⟨E, hE⟩ : ∃ E, Dg.carE ⟨ch, K, q, nu, de⟩ cc bill BB = E := ⟨_, rfl⟩
        rw [hE] at hcar
        have HE := hide hE; clear hE
        go_wp2_with fail
        refine (carried_of ch q nu de A n e K cc bill A3 i c3 BB _ hH.env HK.out (by omega) KZ.out hH.key hml.out (by omega) VZ3.out hV3 hbz E HE.out).mono ?_
        rintro r w6 ⟨rfl, hb6⟩
        replace hb := bnext hb hb6
        clear HE
        rcases hcar with rfl | ⟨rfl, hq⟩ | ⟨rfl, hq⟩
        · go_wp2
          go_ret
          exact ⟨rfl, hb⟩
        · have f1 : decide ((120 : Int) < (i : Int)) = true := dec_t (by omega)
          have f2 : decide (120 < i) = true := dec_t (by omega)
          go_wp2
          go_ret
          exact ⟨rfl, hb⟩
        · have f1 : decide ((120 : Int) < (i : Int)) = false := dec_f (by omega)
          have f2 : decide (120 < i) = false := dec_f (by omega)
          go_wp2
          go_ret
          exact ⟨rfl, hb⟩
      have e1 : decide ((i : Int) < (N : Int)) = true := dec_t (by omega)
      have e2 : decide ((0 : Int) < (nV : Int)) = true := dec_t (by omega)
      have e3 : decide (0 < nV) = true := dec_t (by omega)
      have e4 : (0 : Int) < (nV : Int) := by omega
      have h0l : 0 < l.length := by rw [HL.out]; exact h0
      obtain ⟨b, off, rfl, hbl, A1, A2, e5, e6, hvin, hcc⟩ := hH.vts.get h0l
      have hz := VZ.out l[0] (List.getElem_mem h0l)
      generalize l[0] = v at *
      have hcj := fun i u hu => (hbr.cell (p := ⟨b, off + 0 * 7 + i, none⟩) hbl).trans (hcc i u hu)
      rw [Nat.zero_mul, Nat.add_zero] at hcj
      have p0 : wr.cell? ⟨b, off, none⟩ = some (.int .i64 v.mem) := hcj 0 _ rfl
      have p1 : wr.cell? ⟨b, off + 1, none⟩ = some (.string v.bill) := hcj 1 _ rfl
      have p2 : wr.cell? ⟨b, off + 2, none⟩ = some (.int .i64 v.cham) := hcj 2 _ rfl
      have p3 : wr.cell? ⟨b, off + 3, none⟩ = some (.bool v.yes) := hcj 3 _ rfl
      have p4 : wr.cell? ⟨b, off + 4, none⟩ = some (.int .i64 v.idx) := hcj 4 _ rfl
      have p5 : wr.cell? ⟨b, off + 5, none⟩ = some (.slice A1 v.sig.length e5) := hcj 5 _ rfl
      have p6 : wr.cell? ⟨b, off + 6, none⟩ = some (.slice A2 v.path.length e6) := hcj 6 _ rfl
      clear hcj hcc
      have hx1 := Below.news (Below.refl wr.heap.size wr) (.cells #[.int .i64 (-1 - (i : Int)), .string v.bill, .int .i64 v.cham, .bool v.yes, .int .i64 v.idx, .slice A1 v.sig.length e5, .slice A2 v.path.length e6] 33)
      have hx2 := Below.news (Below.refl (wr.alloc (.cells #[.int .i64 (-1 - (i : Int)), .string v.bill, .int .i64 v.cham, .bool v.yes, .int .i64 v.idx, .slice A1 v.sig.length e5, .slice A2 v.path.length e6] 33)).heap.size (wr.alloc (.cells #[.int .i64 (-1 - (i : Int)), .string v.bill, .int .i64 v.cham, .bool v.yes, .int .i64 v.idx, .slice A1 v.sig.length e5, .slice A2 v.path.length e6] 33))) (.cells #[.int .i64 (-1 - (i : Int)), .string v.bill, .int .i64 v.cham, .bool v.yes, .int .i64 v.idx, .slice A1 v.sig.length e5, .slice A2 v.path.length e6] 33)
      have hO1 := (hO.below hx1).below hx2
      have hs1 := hbr.size
      have hs2 : (wr.alloc (.cells #[.int .i64 (-1 - (i : Int)), .string v.bill, .int .i64 v.cham, .bool v.yes, .int .i64 v.idx, .slice A1 v.sig.length e5, .slice A2 v.path.length e6] 33)).heap.size = wr.heap.size + 1 := by simp
      have hx := bnext hx1 hx2
      have hs3 := hx.size
      have hsrc : ∀ (j : Nat) u, (([⟨⟨-1 - (i : Int), v.bill, v.cham, v.yes, v.idx, v.sig, v.path⟩, A1, A2, e5, e6⟩] : List VtC).flatMap VtC.cells)[j]? = some u → ((wr.alloc (.cells #[.int .i64 (-1 - (i : Int)), .string v.bill, .int .i64 v.cham, .bool v.yes, .int .i64 v.idx, .slice A1 v.sig.length e5, .slice A2 v.path.length e6] 33)).alloc (.cells #[.int .i64 (-1 - (i : Int)), .string v.bill, .int .i64 v.cham, .bool v.yes, .int .i64 v.idx, .slice A1 v.sig.length e5, .slice A2 v.path.length e6] 33)).cell? (Addr.add ⟨wr.heap.size + 1, 0, none⟩ j) = some u := fun j u hu => by
        rw [add_plain, ← hs2, cell_of_row _ _ _ _ _ (0, 0) (heap_alloc_new (wr.alloc (.cells #[.int .i64 (-1 - (i : Int)), .string v.bill, .int .i64 v.cham, .bool v.yes, .int .i64 v.idx, .slice A1 v.sig.length e5, .slice A2 v.path.length e6] 33)) _), Nat.zero_add, ← Array.getElem?_toList]
        exact hu
      have hlen1 : cs.length + 1 ≤ 1099511627776 := by omega
      have hB1 : w2.heap.size ≤ ((wr.alloc (.cells #[.int .i64 (-1 - (i : Int)), .string v.bill, .int .i64 v.cham, .bool v.yes, .int .i64 v.idx, .slice A1 v.sig.length e5, .slice A2 v.path.length e6] 33)).alloc (.cells #[.int .i64 (-1 - (i : Int)), .string v.bill, .int .i64 v.cham, .bool v.yes, .int .i64 v.idx, .slice A1 v.sig.length e5, .slice A2 v.path.length e6] 33)).heap.size := by omega
      have hcs2 : Hid (∀ c ∈ cs ++ [⟨⟨-1 - (i : Int), v.bill, v.cham, v.yes, v.idx, v.sig, v.path⟩, A1, A2, e5, e6⟩], VtIn w2 w2.heap.size c.v c.A1 c.A2 c.e1 c.e2 ∧ Vt0 c.v ∧ c.v.mem < 0) := fun c hc => by
        rcases List.mem_append.1 hc with h | h
        · exact hcs.out c h
        · obtain rfl := List.mem_singleton.1 h
          exact ⟨hvin, ⟨by show -9223372036854775808 ≤ -1 - (i : Int); omega, by show -1 - (i : Int) ≤ 9223372036854775807; omega, hz.c0, hz.c1, hz.bz, hz.sz, hz.pz⟩, by show -1 - (i : Int) < 0; omega⟩
      clear hz hvin hcs
      go_wp2_with (at_builtin; refine step_ac rfl (.tmp 48) (.tmp 50) rfl w2.heap.size _ cs [⟨⟨-1 - (i : Int), v.bill, v.cham, v.yes, v.idx, v.sig, v.path⟩, A1, A2, e5, e6⟩] rfl hO1 _ 1 1 rfl rfl hsrc hlen1 hB1 ?_; intro v2 w4 hO2 hb2)
      go_roundw
      case rel => exact ⟨i + 1, cs ++ [⟨⟨-1 - (i : Int), v.bill, v.cham, v.yes, v.idx, v.sig, v.path⟩, A1, A2, e5, e6⟩], by omega, by go_num, hO2, by rw [List.length_append, hcl]; rfl, (hbr.trans (hx.mono hs1)).trans hb2, hcs2⟩
      case measure => simp [intOf]; omega
end Go.Proofs.YtgncahnkkpjdpaaDoor

