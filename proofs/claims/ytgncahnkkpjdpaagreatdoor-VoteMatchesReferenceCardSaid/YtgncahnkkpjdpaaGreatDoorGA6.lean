/- Walks and laws of this seat, several texts in one: VG. No conditions but those that each theorem states. -/
import Derived.Test.YtgncahnkkpjdpaaGreatDoorGA5
/- VoteMatchesReference. No conditions but those that each theorem states. -/
namespace Go.Proofs.YtgncahnkkpjdpaaGreatDoor
open Go Go.RowKit Go.Sort Go.Maps
/-- What the walk of the messages holds at a vote. -/
structure MH (g1 b o : Nat) (row : Array Value) (vc : List Value) (X : World) : Prop where
  cert : X.heap[g1]? = some (.cells row 27 (0, 0))
  vote : ∀ (j : Nat) (u : Value), vc[j]? = some u → X.cell? ⟨b, o + j, none⟩ = some u
  env : Env X
theorem MH.below {g1 b o : Nat} {row : Array Value} {vc : List Value} {X X' : World} (h : MH g1 b o row vc X) (hb : Below X.heap.size X X') : MH g1 b o row vc X' :=
  ⟨(hb.block _ (Array.getElem?_eq_some_iff.1 h.cert).1).trans h.cert, fun j u hu => (hb.cell (block_lt_of_cell (h.vote j u hu))).trans (h.vote j u hu), h.env.next hb⟩
set_option maxRecDepth 100000 in
set_option maxHeartbeats 16000000 in
theorem law_vmatch (ch q nu de : Int) (A : Option Addr) (n e : Nat) (K : List ByteArray) (cc : Int) (bill : ByteArray) (AV : Option Addr) (nV eV : Nat) (l : List Dg.Vt) (text : ByteArray) (w : World) (he : Env w) (hK : K.length = n) (kn : n ≤ 9223372036854775807) (hkz : ∀ s ∈ K, s.size ≤ 9223372036854775807) (hS : Strs w w.heap.size A K) (hbz : bill.size ≤ 9223372036854775807) (hl : l.length = nV) (hn : nV ≤ 9223372036854775807) (hv : ∀ v ∈ l, VtW v) (hV : Vts w w.heap.size AV l) (htz : text.size ≤ 9223372036854775807) :
    Calls Tryz.prog 3 #[.agg #[.int .i64 ch, .slice A n e, .int .i64 q, .int .i64 nu, .int .i64 de], .agg #[.int .i64 cc, .string bill, .slice AV nV eV], .string text] w fun r w' => r = .returned (.bool true) ∧ Below w.heap.size w w' := by
  have HK := hide hK; have HKZ := hide hkz; have HL := hide hl; have HV := hide hv
  have hH : LS w.heap.size [] A K AV l w := ⟨OwnL.nil _ _, hS, hV, he⟩
  have hb := Below.refl w.heap.size w
  replace hH := hH.lit hb.size #[.int .i64 ch, .slice A n e, .int .i64 q, .int .i64 nu, .int .i64 de] 24 5 rfl (by unfold maxLen; omega)
  replace hb := bnext hb (Below.news (Below.refl w.heap.size w) (.cells #[.int .i64 ch, .slice A n e, .int .i64 q, .int .i64 nu, .int .i64 de] 24))
  replace hH := hH.lit hb.size #[.int .i64 cc, .string bill, .slice AV nV eV] 27 3 rfl (by unfold maxLen; omega)
  replace hb := bnext hb (Below.news (Below.refl (w.alloc (.cells #[.int .i64 ch, .slice A n e, .int .i64 q, .int .i64 nu, .int .i64 de] 24)).heap.size (w.alloc (.cells #[.int .i64 ch, .slice A n e, .int .i64 q, .int .i64 nu, .int .i64 de] 24))) (.cells #[.int .i64 cc, .string bill, .slice AV nV eV] 27))
  clear hK hkz hl hv hS hV he
  have hz1 : (w.alloc (.cells #[.int .i64 ch, .slice A n e, .int .i64 q, .int .i64 nu, .int .i64 de] 24)).heap.size = w.heap.size + 1 := by simp
  rw [hz1] at hH
  clear hz1
  go_enter Tryz.func3, Tryz.ntmps3
  go_wp2_with fail
  generalize ((w.alloc (.cells #[.int .i64 ch, .slice A n e, .int .i64 q, .int .i64 nu, .int .i64 de] 24)).alloc (.cells #[.int .i64 cc, .string bill, .slice AV nV eV] 27)) = W0 at *
  generalize w.heap.size + 1 = g1 at *
  refine (head39_any _ hH.env).mono ?_
  rintro r w1 ⟨rfl, hb1⟩
  replace hH := hH.below hb1
  replace hb := bnext hb hb1
  clear hb1
  obtain ⟨r0, r1, r2, r3, r4⟩ := cells5 (hH.row (List.mem_cons_of_mem _ (List.mem_cons_self ..)))
  obtain ⟨c0, c1, c2⟩ := cells3 (hH.row (List.mem_cons_self ..))
  go_wp2_with fail
  cases hfew : fewVB K l 8 with
  | false =>
    refine (few39_of ch q nu de A n e K AV nV eV l false hfew _ HK.out kn HKZ.out hH.key HL.out hn HV.out hH.vts).mono ?_
    rintro r w2 ⟨rfl, hb2⟩
    replace hH := hH.below hb2
    replace hb := bnext hb hb2
    clear hb2
    clear hfew
    go_wp2
    go_ret
    exact ⟨rfl, hb⟩
  | true =>
    have F := few_spec hfew
    have HF := hide hfew; clear hfew
    refine (few39_of ch q nu de A n e K AV nV eV l true HF.out _ HK.out kn HKZ.out hH.key HL.out hn HV.out hH.vts).mono ?_
    rintro r w2 ⟨rfl, hb2⟩
    replace hH := hH.below hb2
    replace hb := bnext hb hb2
    clear hb2
    clear r0 r1 r2 r3 r4 c0 c1 c2
    have kn2 : n ≤ 10 := by rw [← HK.out]; exact F.nk
    have hn2 : nV ≤ 8 := by rw [← HL.out]; exact F.nl
    have KZ := hide F.key
    have VZ := hide (F.vt0 HV.out)
    have VZZ := hide (show ∀ v ∈ l, v.bill.size ≤ 100 ∧ (∀ s ∈ v.sig, s.size ≤ 1048576) ∧ (∀ s ∈ v.path, s.size ≤ 1048576) from fun v hv => by
      obtain ⟨z1, _, z2, _, z3⟩ := F.vz v hv
      exact ⟨z1, fun s hs => Nat.le_trans (z2 s hs) (by decide), fun s hs => Nat.le_trans (z3 s hs) (by decide)⟩)
    clear F HF HKZ HV
    obtain ⟨r0, r1, r2, r3, r4⟩ := cells5 (hH.row (List.mem_cons_of_mem _ (List.mem_cons_self ..)))
    obtain ⟨c0, c1, c2⟩ := cells3 (hH.row (List.mem_cons_self ..))
    by_cases h100 : bill.size ≤ 100
    rotate_left
    · have d1 : decide ((100 : Int) < (bill.size : Int)) = true := dec_t (by omega)
      have d2 : decide (100 < bill.size) = true := dec_t (by omega)
      clear h100
      go_wp2
      go_ret
      exact ⟨rfl, hb⟩
    have d1bill : decide ((100 : Int) < (bill.size : Int)) = false := dec_f (by omega)
    have d2bill : decide (100 < bill.size) = false := dec_f (by omega)
    by_cases h101 : text.size ≤ 100
    rotate_left
    · have d1 : decide ((100 : Int) < (text.size : Int)) = true := dec_t (by omega)
      have d2 : decide (100 < text.size) = true := dec_t (by omega)
      clear h101
      go_wp2
      go_ret
      exact ⟨rfl, hb⟩
    have d1text : decide ((100 : Int) < (text.size : Int)) = false := dec_f (by omega)
    have d2text : decide (100 < text.size) = false := dec_f (by omega)
    go_wp2
    clear d1bill d2bill d1text d2text
    clear r0 r1 r2 r3 r4 c0 c1 c2
    have hmx : Tryz.prog.follows .mixedOrders = true := by kernel_rfl
    go_loopw [8] (fun iv wr => ∃ i : Nat, i ≤ nV ∧ iv = .int .i64 (i : Int) ∧ Below w2.heap.size w2 wr) (fun iv _ => nV - (intOf iv).toNat)
    case atStart => exact ⟨0, Nat.zero_le _, rfl, Below.refl _ _⟩
    case round =>
      obtain ⟨i, hi, rfl, hbr⟩ := hrel
      have hHr := hH.below hbr
      obtain ⟨c0, c1, c2⟩ := cells3 (hHr.row (List.mem_cons_self ..))
      by_cases hlt : i < nV
      · have hil : i < l.length := by rw [HL.out]; exact hlt
        have hi0 : (0 : Int) ≤ (i : Int) := by omega
        have hin : (i : Int) < (nV : Int) := by omega
        obtain ⟨b, off, rfl, hbl2, A1, A2, e1, e2, hvin, hcc⟩ := hHr.vts.get hil
        have hz := VZ.out l[i] (List.getElem_mem hil)
        have hvz := VZZ.out l[i] (List.getElem_mem hil)
        generalize l[i] = v at *
        obtain ⟨M, hM⟩ : ∃ M, Dg.msgB v.mem v.bill v.cham v.yes = M := ⟨_, rfl⟩
        have HM := hide hM; clear hM
        go_upto_region 7 with (fail)
        have hrow := hHr.row (List.mem_cons_self ..)
        have hHeld : (MH g1 b (off + i * 7) #[.int .i64 cc, .string bill, .slice (some ⟨b, off, none⟩) nV eV] [.int .i64 v.mem, .string v.bill, .int .i64 v.cham, .bool v.yes, .int .i64 v.idx, .slice A1 v.sig.length e1, .slice A2 v.path.length e2]) wr.drew := ⟨hrow, fun j u hu => hcc j u (by rw [← Array.getElem?_toList]; exact hu), hHr.env.next (Below.refl _ _).drew⟩
        replace hbr := hbr.drew
        clear c0 c1 c2 hrow hcc hHr
        refine wp_region_noPanic ?_
        refine wp_region_L (MH g1 b (off + i * 7) #[.int .i64 cc, .string bill, .slice (some ⟨b, off, none⟩) nV eV] [.int .i64 v.mem, .string v.bill, .int .i64 v.cham, .bool v.yes, .int .i64 v.idx, .slice A1 v.sig.length e1, .slice A2 v.path.length e2]) 13 hmx ?_
        generalize wr.drew = u0 at *
        refine wpAnyL_take (i := 0) (f0 := 20) (v := ?_) rfl (by decide +kernel) (by decide +kernel) (by decide +kernel) (by decide +kernel) (by decide +kernel) (fun _ _ _ h => h) (Or.inl ⟨by rfl, ?_⟩) hHeld ?_
        rotate_left
        · intro wS hS; go_simp; (try with_reducible rfl)
        simp only [Act.put, List.getElem_toArray, List.getElem_cons_succ, List.getElem_cons_zero, List.setIfInBounds_toArray, List.set_cons_succ, List.set_cons_zero]
        refine wpAnyL_take (i := 1) (f0 := 20) (v := ?_) rfl (by decide +kernel) (by decide +kernel) (by decide +kernel) (by decide +kernel) (by decide +kernel) (fun _ _ _ h => h) (Or.inl ⟨by rfl, ?_⟩) hHeld ?_
        rotate_left
        · intro wS hS; obtain ⟨c0, c1, c2⟩ := cells3 hS.cert; go_simp; (try with_reducible rfl)
        simp only [Act.put, List.getElem_toArray, List.getElem_cons_succ, List.getElem_cons_zero, List.setIfInBounds_toArray, List.set_cons_succ, List.set_cons_zero]
        refine wpAnyL_take (i := 2) (f0 := 20) (v := ?_) rfl (by decide +kernel) (by decide +kernel) (by decide +kernel) (by decide +kernel) (by decide +kernel) (fun _ _ _ h => h) (Or.inl ⟨by rfl, ?_⟩) hHeld ?_
        rotate_left
        · intro wS hS; go_simp; (try with_reducible rfl)
        simp only [Act.put, List.getElem_toArray, List.getElem_cons_succ, List.getElem_cons_zero, List.setIfInBounds_toArray, List.set_cons_succ, List.set_cons_zero]
        refine wpAnyL_take (i := 3) (f0 := 20) (v := ?_) rfl (by decide +kernel) (by decide +kernel) (by decide +kernel) (by decide +kernel) (by decide +kernel) (fun _ _ _ h => h) (Or.inl ⟨by rfl, ?_⟩) hHeld ?_
        rotate_left
        · intro wS hS; go_simp; (try with_reducible rfl)
        simp only [Act.put, List.getElem_toArray, List.getElem_cons_succ, List.getElem_cons_zero, List.setIfInBounds_toArray, List.set_cons_succ, List.set_cons_zero]
        refine wpAnyL_take (i := 4) (f0 := 20) (v := ?_) rfl (by decide +kernel) (by decide +kernel) (by decide +kernel) (by decide +kernel) (by decide +kernel) (fun _ _ _ h => h) (Or.inl ⟨by rfl, ?_⟩) hHeld ?_
        rotate_left
        · intro wS hS; have p0 : wS.cell? ⟨b, off + i * 7, none⟩ = some (.int .i64 v.mem) := hS.vote 0 _ rfl; have p1 : wS.cell? ⟨b, off + i * 7 + 1, none⟩ = some (.string v.bill) := hS.vote 1 _ rfl; have p2 : wS.cell? ⟨b, off + i * 7 + 2, none⟩ = some (.int .i64 v.cham) := hS.vote 2 _ rfl; have p3 : wS.cell? ⟨b, off + i * 7 + 3, none⟩ = some (.bool v.yes) := hS.vote 3 _ rfl; have p4 : wS.cell? ⟨b, off + i * 7 + 4, none⟩ = some (.int .i64 v.idx) := hS.vote 4 _ rfl; have p5 : wS.cell? ⟨b, off + i * 7 + 5, none⟩ = some (.slice A1 v.sig.length e1) := hS.vote 5 _ rfl; have p6 : wS.cell? ⟨b, off + i * 7 + 6, none⟩ = some (.slice A2 v.path.length e2) := hS.vote 6 _ rfl; go_simp; (try with_reducible rfl)
        simp only [Act.put, List.getElem_toArray, List.getElem_cons_succ, List.getElem_cons_zero, List.setIfInBounds_toArray, List.set_cons_succ, List.set_cons_zero]
        refine wpAnyL_take (i := 6) (f0 := 20) (v := ?_) rfl (by decide +kernel) (by decide +kernel) (by decide +kernel) (by decide +kernel) (by decide +kernel) (fun _ _ _ h => h) (Or.inl ⟨by rfl, ?_⟩) hHeld ?_
        rotate_left
        · intro wS hS; go_simp; (try with_reducible rfl)
        simp only [Act.put, List.getElem_toArray, List.getElem_cons_succ, List.getElem_cons_zero, List.setIfInBounds_toArray, List.set_cons_succ, List.set_cons_zero]
        refine wpAnyL_take (i := 7) (f0 := 20) (v := ?_) rfl (by decide +kernel) (by decide +kernel) (by decide +kernel) (by decide +kernel) (by decide +kernel) (fun _ _ _ h => h) (Or.inl ⟨by rfl, ?_⟩) hHeld ?_
        rotate_left
        · intro wS hS; obtain ⟨c0, c1, c2⟩ := cells3 hS.cert; go_simp; (try with_reducible rfl)
        simp only [Act.put, List.getElem_toArray, List.getElem_cons_succ, List.getElem_cons_zero, List.setIfInBounds_toArray, List.set_cons_succ, List.set_cons_zero]
        refine wpAnyL_take (i := 8) (f0 := 20) (v := ?_) rfl (by decide +kernel) (by decide +kernel) (by decide +kernel) (by decide +kernel) (by decide +kernel) (fun _ _ _ h => h) (Or.inl ⟨by rfl, ?_⟩) hHeld ?_
        rotate_left
        · intro wS hS; go_simp; (try with_reducible rfl)
        simp only [Act.put, List.getElem_toArray, List.getElem_cons_succ, List.getElem_cons_zero, List.setIfInBounds_toArray, List.set_cons_succ, List.set_cons_zero]
        refine wpAnyL_take (i := 9) (f0 := 20) (v := ?_) rfl (by decide +kernel) (by decide +kernel) (by decide +kernel) (by decide +kernel) (by decide +kernel) (fun _ _ _ h => h) (Or.inl ⟨by rfl, ?_⟩) hHeld ?_
        rotate_left
        · intro wS hS; go_simp; (try with_reducible rfl)
        simp only [Act.put, List.getElem_toArray, List.getElem_cons_succ, List.getElem_cons_zero, List.setIfInBounds_toArray, List.set_cons_succ, List.set_cons_zero]
        refine wpAnyL_take (i := 10) (f0 := 20) (v := ?_) rfl (by decide +kernel) (by decide +kernel) (by decide +kernel) (by decide +kernel) (by decide +kernel) (fun _ _ _ h => h) (Or.inl ⟨by rfl, ?_⟩) hHeld ?_
        rotate_left
        · intro wS hS; have p0 : wS.cell? ⟨b, off + i * 7, none⟩ = some (.int .i64 v.mem) := hS.vote 0 _ rfl; have p1 : wS.cell? ⟨b, off + i * 7 + 1, none⟩ = some (.string v.bill) := hS.vote 1 _ rfl; have p2 : wS.cell? ⟨b, off + i * 7 + 2, none⟩ = some (.int .i64 v.cham) := hS.vote 2 _ rfl; have p3 : wS.cell? ⟨b, off + i * 7 + 3, none⟩ = some (.bool v.yes) := hS.vote 3 _ rfl; have p4 : wS.cell? ⟨b, off + i * 7 + 4, none⟩ = some (.int .i64 v.idx) := hS.vote 4 _ rfl; have p5 : wS.cell? ⟨b, off + i * 7 + 5, none⟩ = some (.slice A1 v.sig.length e1) := hS.vote 5 _ rfl; have p6 : wS.cell? ⟨b, off + i * 7 + 6, none⟩ = some (.slice A2 v.path.length e2) := hS.vote 6 _ rfl; go_simp; (try with_reducible rfl)
        simp only [Act.put, List.getElem_toArray, List.getElem_cons_succ, List.getElem_cons_zero, List.setIfInBounds_toArray, List.set_cons_succ, List.set_cons_zero]
        refine wpAnyL_one (i := 5) (by decide +kernel) (by rfl) (fun K0 hK => ?_)
        rw [if_pos (by rfl)]
        go_simp
        refine (vmsg_any v.mem v.bill v.cham v.yes _ _ _ hz.m0 hz.m1 hz.c0 hz.c1 hz.bz M HM.out _ hHeld.env).mono ?_
        rintro r u1 ⟨rfl, hb5⟩
        replace hHeld := hHeld.below hb5
        replace hbr := bnext hbr hb5
        clear hb5
        refine hK.out _ _ (Or.inr hHeld) ?_
        clear hK K0
        try simp only [Act.put, List.getElem_toArray, List.getElem_cons_succ, List.getElem_cons_zero, List.setIfInBounds_toArray, List.set_cons_succ, List.set_cons_zero]
        refine wpAnyL_one (i := 11) (by decide +kernel) (by rfl) (fun K0 hK => ?_)
        rw [if_pos (by rfl)]
        go_simp
        refine (rvmsg_of v.mem v.bill v.cham v.yes v.idx A1 A2 v.sig.length e1 v.path.length e2 hz.m0 hz.m1 hz.c0 hz.c1 hvz.1 M HM.out _).mono ?_
        rintro r u2 ⟨rfl, hb5⟩
        have hMM : (M.toList == M.toList) = true := beq_self_eq_true _
        replace hHeld := hHeld.below hb5
        replace hbr := bnext hbr hb5
        clear hb5
        refine hK.out _ _ (Or.inr hHeld) ?_
        clear hK K0
        try simp only [Act.put, List.getElem_toArray, List.getElem_cons_succ, List.getElem_cons_zero, List.setIfInBounds_toArray, List.set_cons_succ, List.set_cons_zero]
        refine wpAnyL_take (i := 12) (f0 := 20) (v := ?_) rfl (by decide +kernel) (by decide +kernel) (by decide +kernel) (by decide +kernel) (by decide +kernel) (fun _ _ _ h => h) (Or.inl ⟨by rfl, ?_⟩) hHeld ?_
        rotate_left
        · intro wS hS; go_simp; (try with_reducible rfl)
        simp only [Act.put, List.getElem_toArray, List.getElem_cons_succ, List.getElem_cons_zero, List.setIfInBounds_toArray, List.set_cons_succ, List.set_cons_zero]
        refine wpAnyL_done (by decide +kernel) ?_ _
        refine NoPanic.normal ?_
        go_wp2
        go_roundw
        case rel => exact ⟨i + 1, by omega, by go_num, hbr⟩
        case measure => simp [intOf]; omega
      · obtain rfl : i = nV := by omega
        clear c0 c1 c2
        replace hH := hHr
        replace hb := bnext hb hbr
        clear hHr hbr
        obtain ⟨r0, r1, r2, r3, r4⟩ := cells5 (hH.row (List.mem_cons_of_mem _ (List.mem_cons_self ..)))
        obtain ⟨c0, c1, c2⟩ := cells3 (hH.row (List.mem_cons_self ..))
        go_wp2_with fail
        obtain ⟨Y, hY⟩ : ∃ Y, (((Dg.cnt ⟨ch, K, q, nu, de⟩ text l).yes : Nat) : Int) = Y := ⟨_, rfl⟩
        obtain ⟨X, hX⟩ : ∃ X, (((Dg.cnt ⟨ch, K, q, nu, de⟩ text l).no : Nat) : Int) = X := ⟨_, rfl⟩
        obtain ⟨Bd, hBd⟩ : ∃ Bd, (Dg.cnt ⟨ch, K, q, nu, de⟩ text l).bad.map Int.ofNat = Bd := ⟨_, rfl⟩
        obtain ⟨E, hE⟩ : ∃ E, Dg.carE ⟨ch, K, q, nu, de⟩ cc bill l = E := ⟨_, rfl⟩
        have hBl : Bd.length ≤ 8 := by
          have := cnt_sum ⟨ch, K, q, nu, de⟩ text l
          rw [HL.out] at this
          rw [← hBd, List.length_map]; omega
        have HY := hide hY; have HX := hide hX; have HBd := hide hBd; have HE := hide hE
        clear hY hX hBd hE
        refine (counted_of ch q nu de A n e K text AV i eV l _ hH.env HK.out (by omega) KZ.out hH.key HL.out (by omega) VZ.out hH.vts Y X Bd HY.out HX.out HBd.out _ rfl).mono ?_
        rintro r w3 ⟨Ab, cb, rfl, hN1, hb3⟩
        replace hH := hH.below hb3
        replace hb := bnext hb hb3
        clear hb3
        clear r0 r1 r2 r3 r4 c0 c1 c2
        obtain ⟨r0, r1, r2, r3, r4⟩ := cells5 (hH.row (List.mem_cons_of_mem _ (List.mem_cons_self ..)))
        obtain ⟨c0, c1, c2⟩ := cells3 (hH.row (List.mem_cons_self ..))
        go_wp2_with fail
        refine (rcounted_of ch q nu de A n e K text AV i eV l _ HK.out kn2 KZ.out hH.key HL.out hn2 VZ.out VZZ.out hH.vts Y X Bd HY.out HX.out HBd.out _ rfl).mono ?_
        rintro r w4 ⟨Ac, cd, rfl, hN2, hb4⟩
        replace hN1 := hN1.keep hb4
        replace hH := hH.below hb4
        replace hb := bnext hb hb4
        clear hb4
        clear r0 r1 r2 r3 r4 c0 c1 c2
        go_upto_region 11 with (fail)
        have fy : (Y == Y) = true := beq_self_eq_true _
        have fx : (X == X) = true := beq_self_eq_true _
        have fe : (E == E) = true := beq_self_eq_true _
        generalize hbn : Bd.length = bn at *
        have hHeld : (LS w.heap.size [(.slice (some ⟨g1, 0, none⟩) 3 3, 27, [.int .i64 cc, .string bill, .slice AV i eV]), (.slice (some ⟨w.heap.size, 0, none⟩) 5 5, 24, [.int .i64 ch, .slice A n e, .int .i64 q, .int .i64 nu, .int .i64 de])] A K AV l) w4.drew := hH.below (Below.refl _ _).drew
        have hM1 := hN1.keep (Below.refl w4.heap.size w4).drew
        have hM2 := hN2.keep (Below.refl w4.heap.size w4).drew
        replace hb := hb.drew
        clear hH hN1 hN2
        refine wp_region_noPanic ?_
        refine wp_region_L (LS w.heap.size [(.slice (some ⟨g1, 0, none⟩) 3 3, 27, [.int .i64 cc, .string bill, .slice AV i eV]), (.slice (some ⟨w.heap.size, 0, none⟩) 5 5, 24, [.int .i64 ch, .slice A n e, .int .i64 q, .int .i64 nu, .int .i64 de])] A K AV l) 26 hmx ?_
        generalize w4.drew = u0 at *
        refine wpAnyL_take (i := 0) (f0 := 40) (v := ?_) rfl (by decide +kernel) (by decide +kernel) (by decide +kernel) (by decide +kernel) (by decide +kernel) (fun _ _ _ h => h) (Or.inl ⟨by rfl, ?_⟩) hHeld ?_
        rotate_left
        · intro wS hS; go_simp; (try with_reducible rfl)
        simp only [Act.put, List.getElem_toArray, List.getElem_cons_succ, List.getElem_cons_zero, List.setIfInBounds_toArray, List.set_cons_succ, List.set_cons_zero]
        refine wpAnyL_take (i := 1) (f0 := 40) (v := ?_) rfl (by decide +kernel) (by decide +kernel) (by decide +kernel) (by decide +kernel) (by decide +kernel) (fun _ _ _ h => h) (Or.inl ⟨by rfl, ?_⟩) hHeld ?_
        rotate_left
        · intro wS hS; go_simp; (try with_reducible rfl)
        simp only [Act.put, List.getElem_toArray, List.getElem_cons_succ, List.getElem_cons_zero, List.setIfInBounds_toArray, List.set_cons_succ, List.set_cons_zero]
        refine wpAnyL_take (i := 2) (f0 := 40) (v := ?_) rfl (by decide +kernel) (by decide +kernel) (by decide +kernel) (by decide +kernel) (by decide +kernel) (fun _ _ _ h => h) (Or.inl ⟨by rfl, ?_⟩) hHeld ?_
        rotate_left
        · intro wS hS; go_simp; (try with_reducible rfl)
        simp only [Act.put, List.getElem_toArray, List.getElem_cons_succ, List.getElem_cons_zero, List.setIfInBounds_toArray, List.set_cons_succ, List.set_cons_zero]
        refine wpAnyL_take (i := 3) (f0 := 40) (v := ?_) rfl (by decide +kernel) (by decide +kernel) (by decide +kernel) (by decide +kernel) (by decide +kernel) (fun _ _ _ h => h) (Or.inl ⟨by rfl, ?_⟩) hHeld ?_
        rotate_left
        · intro wS hS; go_simp; (try with_reducible rfl)
        simp only [Act.put, List.getElem_toArray, List.getElem_cons_succ, List.getElem_cons_zero, List.setIfInBounds_toArray, List.set_cons_succ, List.set_cons_zero]
        refine wpAnyL_take (i := 4) (f0 := 40) (v := ?_) rfl (by decide +kernel) (by decide +kernel) (by decide +kernel) (by decide +kernel) (by decide +kernel) (fun _ _ _ h => h) (Or.inl ⟨by rfl, ?_⟩) hHeld ?_
        rotate_left
        · intro wS hS; go_simp; (try with_reducible rfl)
        simp only [Act.put, List.getElem_toArray, List.getElem_cons_succ, List.getElem_cons_zero, List.setIfInBounds_toArray, List.set_cons_succ, List.set_cons_zero]
        refine wpAnyL_take (i := 5) (f0 := 40) (v := ?_) rfl (by decide +kernel) (by decide +kernel) (by decide +kernel) (by decide +kernel) (by decide +kernel) (fun _ _ _ h => h) (Or.inl ⟨by rfl, ?_⟩) hHeld ?_
        rotate_left
        · intro wS hS; go_simp; (try with_reducible rfl)
        simp only [Act.put, List.getElem_toArray, List.getElem_cons_succ, List.getElem_cons_zero, List.setIfInBounds_toArray, List.set_cons_succ, List.set_cons_zero]
        refine wpAnyL_take (i := 6) (f0 := 40) (v := ?_) rfl (by decide +kernel) (by decide +kernel) (by decide +kernel) (by decide +kernel) (by decide +kernel) (fun _ _ _ h => h) (Or.inl ⟨by rfl, ?_⟩) hHeld ?_
        rotate_left
        · intro wS hS; go_simp; (try with_reducible rfl)
        simp only [Act.put, List.getElem_toArray, List.getElem_cons_succ, List.getElem_cons_zero, List.setIfInBounds_toArray, List.set_cons_succ, List.set_cons_zero]
        refine wpAnyL_take (i := 7) (f0 := 40) (v := ?_) rfl (by decide +kernel) (by decide +kernel) (by decide +kernel) (by decide +kernel) (by decide +kernel) (fun _ _ _ h => h) (Or.inl ⟨by rfl, ?_⟩) hHeld ?_
        rotate_left
        · intro wS hS; go_simp; (try with_reducible rfl)
        simp only [Act.put, List.getElem_toArray, List.getElem_cons_succ, List.getElem_cons_zero, List.setIfInBounds_toArray, List.set_cons_succ, List.set_cons_zero]
        refine wpAnyL_take (i := 8) (f0 := 40) (v := ?_) rfl (by decide +kernel) (by decide +kernel) (by decide +kernel) (by decide +kernel) (by decide +kernel) (fun _ _ _ h => h) (Or.inl ⟨by rfl, ?_⟩) hHeld ?_
        rotate_left
        · intro wS hS; go_simp; (try with_reducible rfl)
        simp only [Act.put, List.getElem_toArray, List.getElem_cons_succ, List.getElem_cons_zero, List.setIfInBounds_toArray, List.set_cons_succ, List.set_cons_zero]
        refine wpAnyL_take (i := 9) (f0 := 40) (v := ?_) rfl (by decide +kernel) (by decide +kernel) (by decide +kernel) (by decide +kernel) (by decide +kernel) (fun _ _ _ h => h) (Or.inl ⟨by rfl, ?_⟩) hHeld ?_
        rotate_left
        · intro wS hS; go_simp; (try with_reducible rfl)
        simp only [Act.put, List.getElem_toArray, List.getElem_cons_succ, List.getElem_cons_zero, List.setIfInBounds_toArray, List.set_cons_succ, List.set_cons_zero]
        refine wpAnyL_take (i := 10) (f0 := 40) (v := ?_) rfl (by decide +kernel) (by decide +kernel) (by decide +kernel) (by decide +kernel) (by decide +kernel) (fun _ _ _ h => h) (Or.inl ⟨by rfl, ?_⟩) hHeld ?_
        rotate_left
        · intro wS hS; go_simp; (try with_reducible rfl)
        simp only [Act.put, List.getElem_toArray, List.getElem_cons_succ, List.getElem_cons_zero, List.setIfInBounds_toArray, List.set_cons_succ, List.set_cons_zero]
        refine wpAnyL_take (i := 11) (f0 := 40) (v := ?_) rfl (by decide +kernel) (by decide +kernel) (by decide +kernel) (by decide +kernel) (by decide +kernel) (fun _ _ _ h => h) (Or.inl ⟨by rfl, ?_⟩) hHeld ?_
        rotate_left
        · intro wS hS; go_simp; (try with_reducible rfl)
        simp only [Act.put, List.getElem_toArray, List.getElem_cons_succ, List.getElem_cons_zero, List.setIfInBounds_toArray, List.set_cons_succ, List.set_cons_zero]
        refine wpAnyL_take (i := 12) (f0 := 40) (v := ?_) rfl (by decide +kernel) (by decide +kernel) (by decide +kernel) (by decide +kernel) (by decide +kernel) (fun _ _ _ h => h) (Or.inl ⟨by rfl, ?_⟩) hHeld ?_
        rotate_left
        · intro wS hS; go_simp; (try with_reducible rfl)
        simp only [Act.put, List.getElem_toArray, List.getElem_cons_succ, List.getElem_cons_zero, List.setIfInBounds_toArray, List.set_cons_succ, List.set_cons_zero]
        refine wpAnyL_take (i := 13) (f0 := 40) (v := ?_) rfl (by decide +kernel) (by decide +kernel) (by decide +kernel) (by decide +kernel) (by decide +kernel) (fun _ _ _ h => h) (Or.inl ⟨by rfl, ?_⟩) hHeld ?_
        rotate_left
        · intro wS hS; go_simp; (try with_reducible rfl)
        simp only [Act.put, List.getElem_toArray, List.getElem_cons_succ, List.getElem_cons_zero, List.setIfInBounds_toArray, List.set_cons_succ, List.set_cons_zero]
        refine wpAnyL_one (i := 14) (by decide +kernel) (by rfl) (fun K0 hK => ?_)
        rw [if_pos (by rfl)]
        go_simp
        refine (ints_any Ab Ac _ _ bn bn Bd Bd hbn hbn true (by simp) _ (by omega) (by omega) hM1 hM2).mono ?_
        rintro r u1 ⟨rfl, hb5⟩
        replace hHeld := hHeld.below hb5
        replace hb := bnext hb hb5
        clear hb5
        refine hK.out _ _ (Or.inr hHeld) ?_
        clear hK K0
        try simp only [Act.put, List.getElem_toArray, List.getElem_cons_succ, List.getElem_cons_zero, List.setIfInBounds_toArray, List.set_cons_succ, List.set_cons_zero]
        refine wpAnyL_take (i := 15) (f0 := 40) (v := ?_) rfl (by decide +kernel) (by decide +kernel) (by decide +kernel) (by decide +kernel) (by decide +kernel) (fun _ _ _ h => h) (Or.inl ⟨by rfl, ?_⟩) hHeld ?_
        rotate_left
        · intro wS hS; go_simp; (try with_reducible rfl)
        simp only [Act.put, List.getElem_toArray, List.getElem_cons_succ, List.getElem_cons_zero, List.setIfInBounds_toArray, List.set_cons_succ, List.set_cons_zero]
        refine wpAnyL_take (i := 16) (f0 := 40) (v := ?_) rfl (by decide +kernel) (by decide +kernel) (by decide +kernel) (by decide +kernel) (by decide +kernel) (fun _ _ _ h => h) (Or.inl ⟨by rfl, ?_⟩) hHeld ?_
        rotate_left
        · intro wS hS; go_simp; (try with_reducible rfl)
        simp only [Act.put, List.getElem_toArray, List.getElem_cons_succ, List.getElem_cons_zero, List.setIfInBounds_toArray, List.set_cons_succ, List.set_cons_zero]
        refine wpAnyL_take (i := 17) (f0 := 40) (v := ?_) rfl (by decide +kernel) (by decide +kernel) (by decide +kernel) (by decide +kernel) (by decide +kernel) (fun _ _ _ h => h) (Or.inl ⟨by rfl, ?_⟩) hHeld ?_
        rotate_left
        · intro wS hS; obtain ⟨r0, r1, r2, r3, r4⟩ := cells5 (hS.row (List.mem_cons_of_mem _ (List.mem_cons_self ..))); go_simp; (try with_reducible rfl)
        simp only [Act.put, List.getElem_toArray, List.getElem_cons_succ, List.getElem_cons_zero, List.setIfInBounds_toArray, List.set_cons_succ, List.set_cons_zero]
        refine wpAnyL_take (i := 18) (f0 := 40) (v := ?_) rfl (by decide +kernel) (by decide +kernel) (by decide +kernel) (by decide +kernel) (by decide +kernel) (fun _ _ _ h => h) (Or.inl ⟨by rfl, ?_⟩) hHeld ?_
        rotate_left
        · intro wS hS; obtain ⟨c0, c1, c2⟩ := cells3 (hS.row (List.mem_cons_self ..)); go_simp; (try with_reducible rfl)
        simp only [Act.put, List.getElem_toArray, List.getElem_cons_succ, List.getElem_cons_zero, List.setIfInBounds_toArray, List.set_cons_succ, List.set_cons_zero]
        refine wpAnyL_take (i := 20) (f0 := 40) (v := ?_) rfl (by decide +kernel) (by decide +kernel) (by decide +kernel) (by decide +kernel) (by decide +kernel) (fun _ _ _ h => h) (Or.inl ⟨by rfl, ?_⟩) hHeld ?_
        rotate_left
        · intro wS hS; obtain ⟨r0, r1, r2, r3, r4⟩ := cells5 (hS.row (List.mem_cons_of_mem _ (List.mem_cons_self ..))); go_simp; (try with_reducible rfl)
        simp only [Act.put, List.getElem_toArray, List.getElem_cons_succ, List.getElem_cons_zero, List.setIfInBounds_toArray, List.set_cons_succ, List.set_cons_zero]
        refine wpAnyL_take (i := 21) (f0 := 40) (v := ?_) rfl (by decide +kernel) (by decide +kernel) (by decide +kernel) (by decide +kernel) (by decide +kernel) (fun _ _ _ h => h) (Or.inl ⟨by rfl, ?_⟩) hHeld ?_
        rotate_left
        · intro wS hS; obtain ⟨c0, c1, c2⟩ := cells3 (hS.row (List.mem_cons_self ..)); go_simp; (try with_reducible rfl)
        simp only [Act.put, List.getElem_toArray, List.getElem_cons_succ, List.getElem_cons_zero, List.setIfInBounds_toArray, List.set_cons_succ, List.set_cons_zero]
        refine wpAnyL_one (i := 19) (by decide +kernel) (by rfl) (fun K0 hK => ?_)
        rw [if_pos (by rfl)]
        go_simp
        refine (carried_of ch q nu de A n e K cc bill AV i eV l _ hHeld.env HK.out (by omega) KZ.out hHeld.key HL.out (by omega) VZ.out hHeld.vts hbz E HE.out).mono ?_
        rintro r u2 ⟨rfl, hb5⟩
        replace hHeld := hHeld.below hb5
        replace hb := bnext hb hb5
        clear hb5
        refine hK.out _ _ (Or.inr hHeld) ?_
        clear hK K0
        try simp only [Act.put, List.getElem_toArray, List.getElem_cons_succ, List.getElem_cons_zero, List.setIfInBounds_toArray, List.set_cons_succ, List.set_cons_zero]
        refine wpAnyL_one (i := 22) (by decide +kernel) (by rfl) (fun K0 hK => ?_)
        rw [if_pos (by rfl)]
        go_simp
        refine (rcarried_of ch q nu de A n e K cc bill AV i eV l _ HK.out kn2 KZ.out hHeld.key HL.out hn2 VZ.out VZZ.out hHeld.vts h100 E HE.out).mono ?_
        rintro r u3 ⟨rfl, hb5⟩
        replace hHeld := hHeld.below hb5
        replace hb := bnext hb hb5
        clear hb5
        refine hK.out _ _ (Or.inr hHeld) ?_
        clear hK K0
        try simp only [Act.put, List.getElem_toArray, List.getElem_cons_succ, List.getElem_cons_zero, List.setIfInBounds_toArray, List.set_cons_succ, List.set_cons_zero]
        refine wpAnyL_take (i := 23) (f0 := 40) (v := ?_) rfl (by decide +kernel) (by decide +kernel) (by decide +kernel) (by decide +kernel) (by decide +kernel) (fun _ _ _ h => h) (Or.inl ⟨by rfl, ?_⟩) hHeld ?_
        rotate_left
        · intro wS hS; go_simp; (try with_reducible rfl)
        simp only [Act.put, List.getElem_toArray, List.getElem_cons_succ, List.getElem_cons_zero, List.setIfInBounds_toArray, List.set_cons_succ, List.set_cons_zero]
        refine wpAnyL_take (i := 24) (f0 := 40) (v := ?_) rfl (by decide +kernel) (by decide +kernel) (by decide +kernel) (by decide +kernel) (by decide +kernel) (fun _ _ _ h => h) (Or.inl ⟨by rfl, ?_⟩) hHeld ?_
        rotate_left
        · intro wS hS; go_simp; (try with_reducible rfl)
        simp only [Act.put, List.getElem_toArray, List.getElem_cons_succ, List.getElem_cons_zero, List.setIfInBounds_toArray, List.set_cons_succ, List.set_cons_zero]
        refine wpAnyL_take (i := 25) (f0 := 40) (v := ?_) rfl (by decide +kernel) (by decide +kernel) (by decide +kernel) (by decide +kernel) (by decide +kernel) (fun _ _ _ h => h) (Or.inl ⟨by rfl, ?_⟩) hHeld ?_
        rotate_left
        · intro wS hS; go_simp; (try with_reducible rfl)
        simp only [Act.put, List.getElem_toArray, List.getElem_cons_succ, List.getElem_cons_zero, List.setIfInBounds_toArray, List.set_cons_succ, List.set_cons_zero]
        refine wpAnyL_done (by decide +kernel) ?_ _
        refine NoPanic.normal ?_
        go_wp2
        go_ret
        exact ⟨rfl, hb⟩
end Go.Proofs.YtgncahnkkpjdpaaGreatDoor

