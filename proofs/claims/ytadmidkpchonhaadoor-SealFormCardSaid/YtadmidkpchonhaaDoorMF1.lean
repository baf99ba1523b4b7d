/- Walks and laws of this seat, several texts in one: SL7, Open3. No conditions but those that each theorem states. -/
import Derived.Test.YtadmidkpchonhaaDoorMA3
import Derived.Deep.RegionHeld3
import Derived.Lib.SmallJoins
/- SealForm. -/
namespace Go.Proofs.YtadmidkpchonhaaDoor
open Go Go.RowKit Go.Sort
set_option maxRecDepth 100000 in
set_option maxHeartbeats 8000000 in
theorem law_form (p m : ByteArray) (i : Int) (A : Option Addr) (c : Nat) (SG : List ByteArray) (A' : Option Addr) (c' : Nat) (PT : List ByteArray) (w : World) (he : Env w) (hp : p.size ≤ 9223372036854775807) (hm : m.size ≤ 9223372036854775807)
    (hl : SG.length ≤ 9223372036854775807) (hls : ∀ s ∈ SG, s.size ≤ 9223372036854775807) (hS : Strs w w.heap.size A SG) (hc : SG.length ≤ c) (hl2 : PT.length ≤ 9223372036854775807) (hls2 : ∀ s ∈ PT, s.size ≤ 9223372036854775807) (hS' : Strs w w.heap.size A' PT) (_hc' : PT.length ≤ c') (hi0 : -9223372036854775808 ≤ i) (hi1 : i ≤ 9223372036854775807) :
    Calls Tryd.prog 8 #[.string p, .string m, .agg #[.int .i64 i, .slice A SG.length c, .slice A' PT.length c']] w fun e w' => e = .returned (.bool true) ∧ Below w.heap.size w w' := by
  have hm2 := hide (mem2 (a := p) (b := m) (n := 9223372036854775807) hp hm)
  have Hls := hide hls; have Hls2 := hide hls2; clear hls hls2
  obtain ⟨ns, hns⟩ : ∃ ns, SG.length = ns := ⟨_, rfl⟩
  obtain ⟨n, hn⟩ : ∃ n, PT.length = n := ⟨_, rfl⟩
  rw [hns] at hl hc ⊢
  rw [hn] at hl2 ⊢
  clear _hc'
  have Hns := hide hns; have Hn := hide hn; clear hns hn
  go_enter Tryd.func8, Tryd.ntmps8
  go_wp2_with fail
  have hW := Below.news (Below.refl w.heap.size w) (.cells #[.int .i64 i, .slice A ns c, .slice A' n c'] 29)
  have r0 := heap_alloc_new w (.cells #[.int .i64 i, .slice A ns c, .slice A' n c'] 29)
  replace hS := keepS hS hW
  replace hS' := keepS hS' hW
  replace he := he.next hW
  have hb := hW
  generalize w.alloc (.cells #[.int .i64 i, .slice A ns c, .slice A' n c'] 29) = W0 at *
  obtain ⟨q, hq⟩ : ∃ q, w.heap.size = q := ⟨_, rfl⟩
  rw [hq] at r0 ⊢
  have Hq := hide hq; clear hq hW
  refine (head3_of W0 he).mono ?_
  rintro e w1 ⟨rfl, hb1⟩
  replace he := he.next hb1
  replace hS := keepS hS hb1
  replace hS' := keepS hS' hb1
  replace r0 := row_next r0 hb1
  replace hb := bnext hb hb1; clear hb1
  go_wp2_with fail
  cases hsh : shortB [p, m] with
  | false =>
    refine (short3_new [p, m] _ _ 2 _ rfl (by decide) hm2.out false hsh _ rfl _ rfl).mono ?_
    rintro e w2 ⟨rfl, rfl⟩
    go_wp2
    go_ret
    exact ⟨rfl, hb.alloc hb.size _⟩
  | true =>
    obtain ⟨zp, zm⟩ := short2 hsh
    have hsh' := hide hsh; clear hsh
    refine (short3_new [p, m] _ _ 2 _ rfl (by decide) hm2.out true hsh'.out _ rfl _ rfl).mono ?_
    rintro e w2 ⟨rfl, rfl⟩
    obtain ⟨f1, f2, f3⟩ := cells3 r0
    have hql1 : q < w1.heap.size := block_lt_of_cell f1
    have hS2 := keepS hS (Below.news (Below.refl _ _) (.cells #[.string p, .string m] 9))
    have hS2' := keepS hS' (Below.news (Below.refl _ _) (.cells #[.string p, .string m] 9))
    go_wp2_with fail
    cases hf : fewS SG PT with
    | false =>
      refine (rfew3_of i A A' c c' ns n SG PT false hf _ Hns.out Hn.out hl hl2 Hls.out Hls2.out hS2 hS2').mono ?_
      rintro e w3 ⟨rfl, hb3⟩
      go_wp2
      go_ret
      exact ⟨rfl, bnextA hb hb3⟩
    | true =>
      obtain ⟨⟨fs1, fs2⟩, fp1, fp2⟩ := (fewS_iff SG PT).1 hf
      have zs := hide (mem_le (n := 1073741824) fs2 (by decide))
      have zp' := hide (mem_le (n := 1073741824) fp2 (by decide))
      rw [Hns.out] at fs1
      rw [Hn.out] at fp1
      have hf' := hide hf; clear hf fs2 fp2
      refine (rfew3_of i A A' c c' ns n SG PT true hf'.out _ Hns.out Hn.out hl hl2 Hls.out Hls2.out hS2 hS2').mono ?_
      rintro e w3 ⟨rfl, hb3⟩
      have hb3' := bnextA (Below.refl _ _) hb3
      replace he := he.next hb3'
      replace hS := keepS hS hb3'
      replace hS' := keepS hS' hb3'
      replace r0 := row_next r0 hb3'
      replace hb := bnext hb hb3'
      clear hb3 hb3' f1 f2 f3 hS2 hS2'
      obtain ⟨f1, f2, f3⟩ := cells3 r0
      go_wp2_with fail
      cases hv : verifyB p m i SG PT with
      | false =>
        refine (verify_of p m i A A' ns n c c' SG PT _ he (by omega) Hns.out zs.out hS Hn.out zp'.out hS' hc false hv).mono ?_
        rintro e w4 ⟨rfl, hb4⟩
        go_wp2
        go_ret
        exact ⟨rfl, bnext hb hb4⟩
      | true =>
        obtain ⟨v1, v2, v3, v4, v5, v6, _⟩ := (verifyB_iff _ _ _ _ _).1 hv
        have hPd := hide (verifyB_digest hv)
        have HV := hide hv; clear hv
        obtain rfl : ns = 18 := Hns.out.symm.trans v1
        rw [Hn.out] at v2 v6
        clear v1
        have hSd := hide v3; have hTd := hide v4; clear v3 v4
        obtain ⟨N, hN⟩ : ∃ N, 2 ^ n = N := ⟨_, rfl⟩
        rw [hN] at v6
        have hN8 : N ≤ 256 := by rw [← hN]; exact pow_le8 n v2
        have hw := pow_wrap n N hN (by omega)
        have hw2 := pow_wrapK n N hN (by omega)
        have HN := hide hN; clear hN
        refine (verify_of p m i A A' 18 n c c' SG PT _ he (by omega) Hns.out zs.out hS Hn.out zp'.out hS' hc true HV.out).mono ?_
        rintro e w4 ⟨rfl, hb4⟩
        replace he := he.next hb4
        replace hS := keepS hS hb4
        replace hS' := keepS hS' hb4
        replace r0 := row_next r0 hb4
        replace hb := bnext hb hb4
        clear hb4 f1 f2 f3
        obtain ⟨c0, c1, c2⟩ := cells3 r0
        have hql : q < w4.heap.size := block_lt_of_cell c0
        have d1 : decide (i < 0) = false := decide_eq_false (by omega)
        have d2 : decide ((N : Int) ≤ i) = false := decide_eq_false (by omega)
        have d3 : decide (8 < (n : Int)) = false := decide_eq_false (by omega)
        have d4 : decide (8 < n) = false := decide_eq_false (by omega)
        have g0 := fun d os => ((below_regrown w4 d os).cell (p := ⟨q, 0, none⟩) hql).trans c0
        have g1 := fun d os => ((below_regrown w4 d os).cell (p := ⟨q, 1, none⟩) hql).trans c1
        have g2 := fun d os => ((below_regrown w4 d os).cell (p := ⟨q, 2, none⟩) hql).trans c2
        have q1 := fun (d : Nat) (os : Array Obj) => Calls.regrown_of (is_of p true hPd.out (by omega) (grow (redrawn w4 d) os))
        have Q1 := hide q1; clear q1
        go_wp2
        refine wp_region_quiet_below (by kernel_rfl) (by decide +kernel) ?_
        repeat (first | go_big_quiet_step (fail) | quiet_step (fail))
        (first | go_big_quiet_step (exact Q1.out _ _) | quiet_step (exact Q1.out _ _))
        repeat (first | go_big_quiet_step (fail) | quiet_step (fail))
        refine wpQuiet_nil ?_
        intro _ hw'
        obtain ⟨⟨dq, osq⟩, hw''⟩ := hw'
        subst hw''
        clear g0 g1 g2 Q1 c0 c1 c2
        have hb5 := below_regrown w4 dq osq
        replace he := he.next hb5
        replace hS := keepS hS hb5
        replace hS' := keepS hS' hb5
        replace r0 := row_next r0 hb5
        replace hb := bnext hb hb5
        clear hb5
        generalize grow (redrawn w4 dq) osq = w5 at *
        go_wp2
        go_loopw [8] (fun iv wr => ∃ k : Nat, k ≤ 18 ∧ iv = .int .i64 k ∧ Below w5.heap.size w5 wr) (fun iv _ => 18 - (intOf iv).toNat)
        case atStart => exact ⟨0, by omega, rfl, Below.refl _ _⟩
        case round =>
          obtain ⟨k, hk, rfl, hbr⟩ := hrel
          have rr := row_next r0 hbr
          obtain ⟨f1, f2, f3⟩ := cells3 rr
          have hSr := keepS hS hbr
          by_cases hlt : k < 18
          · have hkl : k < SG.length := by rw [Hns.out]; exact hlt
            obtain ⟨b, off, rfl, hbl, hcell⟩ := hSr.get hkl
            have hx := hSd.out SG[k] (List.getElem_mem hkl)
            generalize SG[k] = x at *
            have hx16 := Dg.isB_len hx
            have hx := hide hx
            have hk0 : (k : Int) < ((18 : Nat) : Int) := by omega
            go_wp2_with fail
            refine (is_of x true hx.out (by omega) _).mono ?_
            rintro e w' ⟨rfl, hb'⟩
            go_wp2
            go_roundw
            case rel => exact ⟨k + 1, by omega, by go_num, bnext hbr hb'⟩
            case measure => simp [intOf]; omega
          · obtain rfl : k = 18 := by omega
            rw [show ((18 : Nat) : Int) = (18 : Int) from rfl]
            have r9 := rr
            have hS9 := keepS hS hbr
            have hS9' := keepS hS' hbr
            have he9 := he.next hbr
            have hb9 := bnext hb hbr
            clear r0 hS hS' he hb hbr
            go_wp2
            obtain ⟨w9, rfl⟩ : ∃ w9 : World, w9 = wr := ⟨_, rfl⟩
            go_loopw [9] (fun iv wr => ∃ k : Nat, k ≤ n ∧ iv = .int .i64 k ∧ Below w9.heap.size w9 wr) (fun iv _ => n - (intOf iv).toNat)
            case atStart => exact ⟨0, by omega, rfl, Below.refl _ _⟩
            case round =>
              obtain ⟨k, hk, rfl, hbr⟩ := hrel
              have rr := row_next r9 hbr
              obtain ⟨f1, f2, f3⟩ := cells3 rr
              have hSr := keepS hS9' hbr
              by_cases hlt : k < n
              · have hkl : k < PT.length := by rw [Hn.out]; exact hlt
                obtain ⟨b, off, rfl, hbl, hcell⟩ := hSr.get hkl
                have hx := hTd.out PT[k] (List.getElem_mem hkl)
                generalize PT[k] = x at *
                have hx16 := Dg.isB_len hx
                have hx := hide hx
                have hk0 : (k : Int) < ((n : Nat) : Int) := by omega
                go_wp2_with fail
                refine (is_of x true hx.out (by omega) _).mono ?_
                rintro e w' ⟨rfl, hb'⟩
                go_wp2
                go_roundw
                case rel => exact ⟨k + 1, by omega, by go_num, bnext hbr hb'⟩
                case measure => simp [intOf]; omega
              · obtain rfl : n = k := by omega
                have r10 := row_next r9 hbr
                have hS10 := keepS hS9 hbr
                have hS10' := keepS hS9' hbr
                have he10 := he9.next hbr
                have hb10 := bnext hb9 hbr
                obtain ⟨c0, c1, c2⟩ := cells3 r10
                have hq0 : q < wr.heap.size := block_lt_of_cell c0
                have hq1 : q < wr.heap.size + 1 := by omega
                have hq2 : q < wr.heap.size + 1 + 1 := by omega
                have hq3 : q < wr.heap.size + 1 + 1 + 1 := by omega
                have s17 : ∀ w, (Instr.slice 27 (.slice A 18 c) none (some (.int .i64 17)) none).run Tryd.prog w = .ok (.slice A 17 c) w := fun w => slice_to A 18 c 17 (by omega) w
                have hmx : Tryd.prog.follows .mixedOrders = true := by kernel_rfl
                go_wp2
                have hx2 : ∀ (X Y : Obj) (p : Addr), p.block < wr.heap.size → ((wr.alloc X).alloc Y).cell? p = wr.cell? p := fun X Y p hp => (((Below.refl wr.heap.size wr).alloc (Nat.le_refl _) X).alloc (by simp) Y).cell hp
                have hHeld : (fun W' : World => W'.cell? ⟨q, 0, none⟩ = some (.int .i64 i) ∧ W'.cell? ⟨q, 2, none⟩ = some (.slice A' n c')) (((wr.alloc (.cells #[.int .i64 i, .slice A 17 c, .slice A' n c'] 29)).alloc (.cells #[.int .i64 i, .slice A 18 c, .slice A' n c'] 29)).drew) := ⟨(hx2 _ _ ⟨q, 0, none⟩ hq0).trans c0, (hx2 _ _ ⟨q, 2, none⟩ hq0).trans c2⟩
                have hadd := IntWalk.i64_in (i + (N : Int)) (by omega)
                have hsub := IntWalk.i64_in (i - (N : Int)) (by omega)
                refine wp_region_noPanic ?_
                refine wp_region_L (fun W' : World => W'.cell? ⟨q, 0, none⟩ = some (.int .i64 i) ∧ W'.cell? ⟨q, 2, none⟩ = some (.slice A' n c')) 9 hmx ?_
                refine wpAnyL_take (i := 0) (f0 := 9) (v := ?_) rfl (by decide +kernel) (by decide +kernel) (by decide +kernel) (by decide +kernel) (by decide +kernel) (fun _ _ _ h => h) (Or.inl ⟨by rfl, ?_⟩) hHeld ?_
                rotate_left
                · intro wS hS; obtain ⟨hS1, hS2⟩ := hS; go_simp; (try with_reducible rfl)
                simp only [Act.put, List.setIfInBounds_toArray]
                refine wpAnyL_take (i := 1) (f0 := 9) (v := ?_) rfl (by decide +kernel) (by decide +kernel) (by decide +kernel) (by decide +kernel) (by decide +kernel) (fun _ _ _ h => h) (Or.inl ⟨by rfl, ?_⟩) hHeld ?_
                rotate_left
                · intro wS hS; obtain ⟨hS1, hS2⟩ := hS; go_simp; (try with_reducible rfl)
                simp only [Act.put]
                refine wpAnyL_take (i := 2) (f0 := 9) (v := ?_) rfl (by decide +kernel) (by decide +kernel) (by decide +kernel) (by decide +kernel) (by decide +kernel) (fun _ _ _ h => h) (Or.inl ⟨by rfl, ?_⟩) hHeld ?_
                rotate_left
                · intro wS hS; obtain ⟨hS1, hS2⟩ := hS; go_simp; (try with_reducible rfl)
                simp only [Act.put]
                refine wpAnyL_take (i := 3) (f0 := 9) (v := ?_) rfl (by decide +kernel) (by decide +kernel) (by decide +kernel) (by decide +kernel) (by decide +kernel) (fun _ _ _ h => h) (Or.inl ⟨by rfl, ?_⟩) hHeld ?_
                rotate_left
                · intro wS hS; obtain ⟨hS1, hS2⟩ := hS; go_simp; (try with_reducible rfl)
                simp only [Act.put]
                refine wpAnyL_take (i := 4) (f0 := 9) (v := ?_) rfl (by decide +kernel) (by decide +kernel) (by decide +kernel) (by decide +kernel) (by decide +kernel) (fun _ _ _ h => h) (Or.inl ⟨by rfl, ?_⟩) hHeld ?_
                rotate_left
                · intro wS hS; obtain ⟨hS1, hS2⟩ := hS; go_simp; (try with_reducible rfl)
                simp only [Act.put]
                refine wpAnyL_take (i := 5) (f0 := 9) (v := ?_) rfl (by decide +kernel) (by decide +kernel) (by decide +kernel) (by decide +kernel) (by decide +kernel) (fun _ _ _ h => h) (Or.inl ⟨by rfl, ?_⟩) hHeld ?_
                rotate_left
                · intro wS hS; obtain ⟨hS1, hS2⟩ := hS; go_simp; (try with_reducible rfl)
                simp only [Act.put]
                refine wpAnyL_take (i := 6) (f0 := 9) (v := ?_) rfl (by decide +kernel) (by decide +kernel) (by decide +kernel) (by decide +kernel) (by decide +kernel) (fun _ _ _ h => h) (Or.inl ⟨by rfl, ?_⟩) hHeld ?_
                rotate_left
                · intro wS hS; obtain ⟨hS1, hS2⟩ := hS; go_simp; (try with_reducible rfl)
                simp only [Act.put]
                refine wpAnyL_take (i := 7) (f0 := 9) (v := ?_) rfl (by decide +kernel) (by decide +kernel) (by decide +kernel) (by decide +kernel) (by decide +kernel) (fun _ _ _ h => h) (Or.inl ⟨by rfl, ?_⟩) hHeld ?_
                rotate_left
                · intro wS hS; obtain ⟨hS1, hS2⟩ := hS; go_simp; (try with_reducible rfl)
                simp only [Act.put]
                refine wpAnyL_one (i := 8) (by decide +kernel) (by rfl) (fun K hK => ?_)
                rw [if_pos (by rfl)]
                go_simp
                refine hK.out _ _ (Or.inr ⟨(hx2 _ _ ⟨q, 0, none⟩ hq0).trans c0, (hx2 _ _ ⟨q, 2, none⟩ hq0).trans c2⟩) ?_
                clear hK K hHeld
                try simp only [Act.put, List.setIfInBounds_toArray, List.set_cons_zero, List.set_cons_succ]
                refine wpAnyL_done (by decide +kernel) ?_ _
                refine NoPanic.normal ?_
                have Hx2 := hide hx2; clear hx2
                have hadd' := hide hadd; have hsub' := hide hsub; clear hadd hsub
                go_wp2
                have hx3 : ∀ (X Y Z : Obj) (p : Addr), p.block < wr.heap.size → (((wr.alloc X).alloc Y).alloc Z).cell? p = wr.cell? p := fun X Y Z p hp => ((((Below.refl wr.heap.size wr).alloc (Nat.le_refl _) X).alloc (by simp) Y).alloc (by simp; omega) Z).cell hp
                have hHeld : (fun W' : World => W'.cell? ⟨q, 0, none⟩ = some (.int .i64 i) ∧ W'.cell? ⟨q, 2, none⟩ = some (.slice A' n c')) (((wr.alloc (.cells #[.int .i64 i, .slice A 17 c, .slice A' n c'] 29)).alloc (.cells #[.int .i64 (i + N), .slice A 18 c, .slice A' n c'] 29)).alloc (.cells #[.int .i64 i, .slice A 18 c, .slice A' n c'] 29)).drew.drew := ⟨(hx3 _ _ _ ⟨q, 0, none⟩ hq0).trans c0, (hx3 _ _ _ ⟨q, 2, none⟩ hq0).trans c2⟩
                have hadd := hadd'.out
                have hsub := hsub'.out
                refine wp_region_noPanic ?_
                refine wp_region_L (fun W' : World => W'.cell? ⟨q, 0, none⟩ = some (.int .i64 i) ∧ W'.cell? ⟨q, 2, none⟩ = some (.slice A' n c')) 9 hmx ?_
                refine wpAnyL_take (i := 0) (f0 := 9) (v := ?_) rfl (by decide +kernel) (by decide +kernel) (by decide +kernel) (by decide +kernel) (by decide +kernel) (fun _ _ _ h => h) (Or.inl ⟨by rfl, ?_⟩) hHeld ?_
                rotate_left
                · intro wS hS; obtain ⟨hS1, hS2⟩ := hS; go_simp; (try with_reducible rfl)
                simp only [Act.put, List.setIfInBounds_toArray]
                refine wpAnyL_take (i := 1) (f0 := 9) (v := ?_) rfl (by decide +kernel) (by decide +kernel) (by decide +kernel) (by decide +kernel) (by decide +kernel) (fun _ _ _ h => h) (Or.inl ⟨by rfl, ?_⟩) hHeld ?_
                rotate_left
                · intro wS hS; obtain ⟨hS1, hS2⟩ := hS; go_simp; (try with_reducible rfl)
                simp only [Act.put]
                refine wpAnyL_take (i := 2) (f0 := 9) (v := ?_) rfl (by decide +kernel) (by decide +kernel) (by decide +kernel) (by decide +kernel) (by decide +kernel) (fun _ _ _ h => h) (Or.inl ⟨by rfl, ?_⟩) hHeld ?_
                rotate_left
                · intro wS hS; obtain ⟨hS1, hS2⟩ := hS; go_simp; (try with_reducible rfl)
                simp only [Act.put]
                refine wpAnyL_take (i := 3) (f0 := 9) (v := ?_) rfl (by decide +kernel) (by decide +kernel) (by decide +kernel) (by decide +kernel) (by decide +kernel) (fun _ _ _ h => h) (Or.inl ⟨by rfl, ?_⟩) hHeld ?_
                rotate_left
                · intro wS hS; obtain ⟨hS1, hS2⟩ := hS; go_simp; (try with_reducible rfl)
                simp only [Act.put]
                refine wpAnyL_take (i := 4) (f0 := 9) (v := ?_) rfl (by decide +kernel) (by decide +kernel) (by decide +kernel) (by decide +kernel) (by decide +kernel) (fun _ _ _ h => h) (Or.inl ⟨by rfl, ?_⟩) hHeld ?_
                rotate_left
                · intro wS hS; obtain ⟨hS1, hS2⟩ := hS; go_simp; (try with_reducible rfl)
                simp only [Act.put]
                refine wpAnyL_take (i := 5) (f0 := 9) (v := ?_) rfl (by decide +kernel) (by decide +kernel) (by decide +kernel) (by decide +kernel) (by decide +kernel) (fun _ _ _ h => h) (Or.inl ⟨by rfl, ?_⟩) hHeld ?_
                rotate_left
                · intro wS hS; obtain ⟨hS1, hS2⟩ := hS; go_simp; (try with_reducible rfl)
                simp only [Act.put]
                refine wpAnyL_take (i := 6) (f0 := 9) (v := ?_) rfl (by decide +kernel) (by decide +kernel) (by decide +kernel) (by decide +kernel) (by decide +kernel) (fun _ _ _ h => h) (Or.inl ⟨by rfl, ?_⟩) hHeld ?_
                rotate_left
                · intro wS hS; obtain ⟨hS1, hS2⟩ := hS; go_simp; (try with_reducible rfl)
                simp only [Act.put]
                refine wpAnyL_take (i := 7) (f0 := 9) (v := ?_) rfl (by decide +kernel) (by decide +kernel) (by decide +kernel) (by decide +kernel) (by decide +kernel) (fun _ _ _ h => h) (Or.inl ⟨by rfl, ?_⟩) hHeld ?_
                rotate_left
                · intro wS hS; obtain ⟨hS1, hS2⟩ := hS; go_simp; (try with_reducible rfl)
                simp only [Act.put]
                refine wpAnyL_one (i := 8) (by decide +kernel) (by rfl) (fun K hK => ?_)
                rw [if_pos (by rfl)]
                go_simp
                refine hK.out _ _ (Or.inr ⟨(hx3 _ _ _ ⟨q, 0, none⟩ hq0).trans c0, (hx3 _ _ _ ⟨q, 2, none⟩ hq0).trans c2⟩) ?_
                clear hK K hHeld
                try simp only [Act.put, List.setIfInBounds_toArray, List.set_cons_zero, List.set_cons_succ]
                refine wpAnyL_done (by decide +kernel) ?_ _
                refine NoPanic.normal ?_
                obtain ⟨ra, rb, rc, hbx⟩ := alloc3 wr (.cells #[.int .i64 i, .slice A 17 c, .slice A' n c'] 29) (.cells #[.int .i64 (i + N), .slice A 18 c, .slice A' n c'] 29) (.cells #[.int .i64 (i - N), .slice A 18 c, .slice A' n c'] 29)
                have hby : Below wr.heap.size wr (((wr.alloc (.cells #[.int .i64 i, .slice A 17 c, .slice A' n c'] 29)).alloc (.cells #[.int .i64 (i + N), .slice A 18 c, .slice A' n c'] 29)).alloc (.cells #[.int .i64 (i - N), .slice A 18 c, .slice A' n c'] 29)).drew.drew := hbx.drew.drew
                have ra' : (((wr.alloc (.cells #[.int .i64 i, .slice A 17 c, .slice A' n c'] 29)).alloc (.cells #[.int .i64 (i + N), .slice A 18 c, .slice A' n c'] 29)).alloc (.cells #[.int .i64 (i - N), .slice A 18 c, .slice A' n c'] 29)).drew.drew.heap[wr.heap.size]? = _ := ra
                have rb' : (((wr.alloc (.cells #[.int .i64 i, .slice A 17 c, .slice A' n c'] 29)).alloc (.cells #[.int .i64 (i + N), .slice A 18 c, .slice A' n c'] 29)).alloc (.cells #[.int .i64 (i - N), .slice A 18 c, .slice A' n c'] 29)).drew.drew.heap[wr.heap.size + 1]? = _ := rb
                have rc' : (((wr.alloc (.cells #[.int .i64 i, .slice A 17 c, .slice A' n c'] 29)).alloc (.cells #[.int .i64 (i + N), .slice A 18 c, .slice A' n c'] 29)).alloc (.cells #[.int .i64 (i - N), .slice A 18 c, .slice A' n c'] 29)).drew.drew.heap[wr.heap.size + 1 + 1]? = _ := rc
                clear hx3 Hx2 hadd hsub hadd' hsub' ra rb rc hbx s17 hmx hq1 hq2 hq3 c0 c1 c2
                generalize (((wr.alloc (.cells #[.int .i64 i, .slice A 17 c, .slice A' n c'] 29)).alloc (.cells #[.int .i64 (i + N), .slice A 18 c, .slice A' n c'] 29)).alloc (.cells #[.int .i64 (i - N), .slice A 18 c, .slice A' n c'] 29)).drew.drew = w20 at *
                have hS20 := keepS hS10 hby
                have hS20' := keepS hS10' hby
                have he20 := he10.next hby
                have hb20 := bnext hb10 hby
                generalize wr.heap.size = z at *
                have hS17 := Strs.take hS20 17
                obtain ⟨f1, f2, f3⟩ := cells3 ra'
                go_wp2_with fail
                refine (verify_of p m (i) A A' 17 n c c' (SG.take 17) PT _ he20 (by omega) (by rw [List.length_take, Hns.out]; rfl) (fun x hx => zs.out x (List.mem_of_mem_take hx)) hS17 Hn.out zp'.out hS20' (by omega) false (verifyB_not (fun hx => by rw [Hn.out, HN.out] at hx; exact absurd hx.1 (by rw [List.length_take, Hns.out]; decide)))).mono ?_
                rintro e w' ⟨rfl, hb'⟩
                replace rb' := row_next rb' hb'
                replace rc' := row_next rc' hb'
                replace he20 := he20.next hb'
                replace hS20 := keepS hS20 hb'
                replace hS20' := keepS hS20' hb'
                replace hb20 := bnext hb20 hb'
                clear hb' f1 f2 f3
                obtain ⟨f1, f2, f3⟩ := cells3 rb'
                go_wp2_with fail
                refine (verify_of p m (i + N) A A' 18 n c c' SG PT _ he20 (by omega) Hns.out zs.out hS20 Hn.out zp'.out hS20' (by omega) false (verifyB_not (fun hx => by rw [Hn.out, HN.out] at hx; omega))).mono ?_
                rintro e w' ⟨rfl, hb'⟩
                replace rc' := row_next rc' hb'
                replace he20 := he20.next hb'
                replace hS20 := keepS hS20 hb'
                replace hS20' := keepS hS20' hb'
                replace hb20 := bnext hb20 hb'
                clear hb' f1 f2 f3
                obtain ⟨f1, f2, f3⟩ := cells3 rc'
                go_wp2_with fail
                refine (verify_of p m (i - N) A A' 18 n c c' SG PT _ he20 (by omega) Hns.out zs.out hS20 Hn.out zp'.out hS20' (by omega) false (verifyB_not (fun hx => by rw [Hn.out, HN.out] at hx; omega))).mono ?_
                rintro e w' ⟨rfl, hb'⟩
                go_wp2
                go_ret
                exact ⟨rfl, bnext hb20 hb'⟩
end Go.Proofs.YtadmidkpchonhaaDoor
/- A seal that came in, opened. No conditions. -/
namespace Go.Proofs.YtadmidkpchonhaaDoor
open Go Go.RowKit Go.ChangeShapes Go.WideShapes Go.ChangeAt Go.WideMaps Go.WideElems Go.Joins
variable {H : Type} {enc : TypeId × Value → H}
theorem cellsStr : Tryd.prog.cellsOf 9 = 1 := by kernel_rfl
set_option maxRecDepth 100000 in
/-- A field that is a slice of strings. -/
theorem field_strs {W : World} {v : Value} {n : Nat} {y : DataW H × List MemPlace} (hf : DataW.trod enc Tryd.prog W 0 (fun _ => true) true n 27 [v] = some y) :
    ∃ (A : Option Addr) (c : Nat) (l : List ByteArray), v = .slice A l.length c ∧ l.length ≤ 9223372036854775807 ∧ (∀ s ∈ l, s.size ≤ 9223372036854775807) ∧ Strs W W.heap.size A l ∧ l.length ≤ c := by
  rcases open_strings Tryd.underlying27 Tryd.underlying9 (by kernel_rfl) hf with ⟨hcs, _⟩ | ⟨a, len', cap', ss, hcs, _, hl, hm, hz, _, hcell, hws⟩
  · simp only [List.cons.injEq, and_true] at hcs
    subst hcs
    exact ⟨none, 0, [], rfl, by simp, by simp, Strs.nil _ _ _, by simp⟩
  · simp only [List.cons.injEq, and_true] at hcs
    subst hcs
    simp only [if_true] at hz
    unfold maxLen at hm
    have htl : (ss.take len').length = len' := by rw [List.length_take, hz]; omega
    refine ⟨some a, cap', ss.take len', by rw [htl], by rw [htl]; omega, fun s hs => hws s (List.mem_of_mem_take hs), ⟨fun h0 => ?_⟩, by rw [htl]; exact hl⟩
    rw [htl] at h0
    have h00 : a.add 0 = a := by unfold Addr.add; rw [if_pos rfl]
    obtain ⟨e, hb⟩ := addr_of_cell (h00 ▸ hcell 0 (by omega))
    refine ⟨a.block, a.off, by rw [← e], hb, fun j s hj => ?_⟩
    have hjl : j < len' := by
      have := (List.getElem?_eq_some_iff.1 hj).1
      rw [htl] at this; exact this
    have h1 := hcell j (by omega)
    rw [List.getElem?_take, if_pos hjl] at hj
    rw [List.getD_eq_getElem?_getD, hj] at h1
    have e2 : a.add j = ⟨a.block, a.off + j, none⟩ := by
      conv => lhs; rw [e]
      exact add_plain _ _ _
    rw [← e2]
    exact h1
set_option maxRecDepth 100000 in
/-- A seal. -/
theorem open_seal {W : World} {v : Value} {d : DataW H} {p : List MemPlace} {base : Nat} (hv : Value.okWide Tryd.prog W .any base 29 v) (h : DataW.Trod enc Tryd.prog W 0 (fun _ => true) true 29 v d p) :
    ∃ (i : Int) (A : Option Addr) (c : Nat) (l : List ByteArray) (A' : Option Addr) (c' : Nat) (l' : List ByteArray), v = .agg #[.int .i64 i, .slice A l.length c, .slice A' l'.length c'] ∧ (Lit.int .i64 i).wf = true ∧
      l.length ≤ 9223372036854775807 ∧ (∀ s ∈ l, s.size ≤ 9223372036854775807) ∧ Strs W W.heap.size A l ∧ l.length ≤ c ∧
      l'.length ≤ 9223372036854775807 ∧ (∀ s ∈ l', s.size ≤ 9223372036854775807) ∧ Strs W W.heap.size A' l' ∧ l'.length ≤ c' := by
  obtain ⟨v0, v1, v2, y0, y1, y2, n, rfl, rfl, rfl, h0, h1, h2⟩ := open_agg3 Tryd.underlying29 (by kernel_rfl) (by kernel_rfl) hv h
  obtain ⟨i, e0, _, wi⟩ := DataW.trod_int Tryd.underlying3 h0
  simp only [List.cons.injEq, and_true] at e0
  subst e0
  obtain ⟨A, c, l, rfl, a1, a2, a3, a4⟩ := field_strs h1
  obtain ⟨A', c', l', rfl, b1, b2, b3, b4⟩ := field_strs h2
  exact ⟨i, A, c, l, A', c', l', rfl, wi, a1, a2, a3, a4, b1, b2, b3, b4⟩
end Go.Proofs.YtadmidkpchonhaaDoor

