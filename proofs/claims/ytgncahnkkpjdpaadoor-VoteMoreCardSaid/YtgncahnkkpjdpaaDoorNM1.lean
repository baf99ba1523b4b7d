/- Walks and laws of this seat, several texts in one: VM, OpenZ. No conditions but those that each theorem states. -/
import Derived.Test.YtgncahnkkpjdpaaDoorNA5
import Derived.SizedLaws
/- VoteMore. No conditions but those that each theorem states. -/
namespace Go.Proofs.YtgncahnkkpjdpaaDoor
open Go Go.RowKit Go.Sort Go.Maps
set_option maxRecDepth 100000 in
set_option maxHeartbeats 8000000 in
theorem law_more (ch q nu de : Int) (A : Option Addr) (n e : Nat) (K : List ByteArray) (cc : Int) (bill : ByteArray) (AV : Option Addr) (nV eV : Nat) (l : List Dg.Vt) (x : Dg.Vt) (A1 A2 : Option Addr) (e1 e2 : Nat) (w : World) (he : Env w) (hK : K.length = n) (kn : n ≤ 9223372036854775807) (hkz : ∀ s ∈ K, s.size ≤ 9223372036854775807) (hS : Strs w w.heap.size A K) (hbz : bill.size ≤ 9223372036854775807) (hl : l.length = nV) (hn : nV ≤ 9223372036854775807) (hv : ∀ v ∈ l, VtW v) (hV : Vts w w.heap.size AV l) (hnb : nV * 96 ≤ 140737488351232) (hx : VtW x) (hin : VtIn w w.heap.size x A1 A2 e1 e2) :
    Calls Tryd.prog 6 #[.agg #[.int .i64 ch, .slice A n e, .int .i64 q, .int .i64 nu, .int .i64 de], .agg #[.int .i64 cc, .string bill, .slice AV nV eV], .agg (voteV x A1 A2 e1 e2)] w fun r w' => r = .returned (.bool true) ∧ Below w.heap.size w w' := by
  unfold voteV
  have HK := hide hK; have HKZ := hide hkz; have HL := hide hl; have HV := hide hv
  have hH : LS w.heap.size [] A K AV l w := ⟨OwnL.nil _ _, hS, hV, he⟩
  have hb := Below.refl w.heap.size w
  replace hH := hH.lit hb.size #[.int .i64 ch, .slice A n e, .int .i64 q, .int .i64 nu, .int .i64 de] 24 5 rfl (by unfold maxLen; omega)
  replace hb := bnext hb (Below.news (Below.refl w.heap.size w) (.cells #[.int .i64 ch, .slice A n e, .int .i64 q, .int .i64 nu, .int .i64 de] 24))
  replace hH := hH.lit hb.size #[.int .i64 cc, .string bill, .slice AV nV eV] 27 3 rfl (by unfold maxLen; omega)
  replace hb := bnext hb (Below.news (Below.refl (w.alloc (.cells #[.int .i64 ch, .slice A n e, .int .i64 q, .int .i64 nu, .int .i64 de] 24)).heap.size (w.alloc (.cells #[.int .i64 ch, .slice A n e, .int .i64 q, .int .i64 nu, .int .i64 de] 24))) (.cells #[.int .i64 cc, .string bill, .slice AV nV eV] 27))
  replace hH := hH.lit hb.size #[.int .i64 x.mem, .string x.bill, .int .i64 x.cham, .bool x.yes, .int .i64 x.idx, .slice A1 x.sig.length e1, .slice A2 x.path.length e2] 33 7 rfl (by unfold maxLen; omega)
  replace hb := bnext hb (Below.news (Below.refl ((w.alloc (.cells #[.int .i64 ch, .slice A n e, .int .i64 q, .int .i64 nu, .int .i64 de] 24)).alloc (.cells #[.int .i64 cc, .string bill, .slice AV nV eV] 27)).heap.size ((w.alloc (.cells #[.int .i64 ch, .slice A n e, .int .i64 q, .int .i64 nu, .int .i64 de] 24)).alloc (.cells #[.int .i64 cc, .string bill, .slice AV nV eV] 27))) (.cells #[.int .i64 x.mem, .string x.bill, .int .i64 x.cham, .bool x.yes, .int .i64 x.idx, .slice A1 x.sig.length e1, .slice A2 x.path.length e2] 33))
  clear hK hkz hl hv hS hV he
  have hz1 : (w.alloc (.cells #[.int .i64 ch, .slice A n e, .int .i64 q, .int .i64 nu, .int .i64 de] 24)).heap.size = w.heap.size + 1 := by simp
  have hz2 : ((w.alloc (.cells #[.int .i64 ch, .slice A n e, .int .i64 q, .int .i64 nu, .int .i64 de] 24)).alloc (.cells #[.int .i64 cc, .string bill, .slice AV nV eV] 27)).heap.size = w.heap.size + 1 + 1 := by simp
  rw [hz1, hz2] at hH
  clear hz1 hz2
  have hI : VtIn (((w.alloc (.cells #[.int .i64 ch, .slice A n e, .int .i64 q, .int .i64 nu, .int .i64 de] 24)).alloc (.cells #[.int .i64 cc, .string bill, .slice AV nV eV] 27)).alloc (.cells #[.int .i64 x.mem, .string x.bill, .int .i64 x.cham, .bool x.yes, .int .i64 x.idx, .slice A1 x.sig.length e1, .slice A2 x.path.length e2] 33)) (((w.alloc (.cells #[.int .i64 ch, .slice A n e, .int .i64 q, .int .i64 nu, .int .i64 de] 24)).alloc (.cells #[.int .i64 cc, .string bill, .slice AV nV eV] 27)).alloc (.cells #[.int .i64 x.mem, .string x.bill, .int .i64 x.cham, .bool x.yes, .int .i64 x.idx, .slice A1 x.sig.length e1, .slice A2 x.path.length e2] 33)).heap.size x A1 A2 e1 e2 := ⟨(hin.1.below hb).more (by simp <;> omega), hin.2.1, (hin.2.2.1.below hb).more (by simp <;> omega), hin.2.2.2⟩
  clear hin
  go_enter Tryd.func6, Tryd.ntmps6
  go_wp2_with fail
  generalize (((w.alloc (.cells #[.int .i64 ch, .slice A n e, .int .i64 q, .int .i64 nu, .int .i64 de] 24)).alloc (.cells #[.int .i64 cc, .string bill, .slice AV nV eV] 27)).alloc (.cells #[.int .i64 x.mem, .string x.bill, .int .i64 x.cham, .bool x.yes, .int .i64 x.idx, .slice A1 x.sig.length e1, .slice A2 x.path.length e2] 33)) = W0 at *
  generalize w.heap.size + 1 + 1 = g2 at *
  generalize w.heap.size + 1 = g1 at *
  refine (head39_any _ hH.env).mono ?_
  rintro r w1 ⟨rfl, hb1⟩
  replace hH := hH.below hb1
  replace hI := hI.keep hb1
  replace hb := bnext hb hb1
  clear hb1
  go_upto_region 2 with (fail)
  obtain ⟨cs, hcs, hcin, hsrc⟩ := hH.vts.cs
  have hcl : cs.length = nV := by rw [← HL.out, ← hcs, List.length_map]
  have HCS := hide hcs; clear hcs
  go_cut [8] from 15 to 21 (fun v wx => ∃ (A8 : Option Addr) (c8 : Nat), v = .slice A8 (nV + 1) c8 ∧ Vts wx wx.heap.size A8 (l ++ [x]) ∧ Below w1.heap.size w1 wx)
  case first =>
    have hmx : Tryd.prog.follows .mixedOrders = true := by kernel_rfl
    have hHeld : (LS w.heap.size [(.slice (some ⟨g2, 0, none⟩) 7 7, 33, [.int .i64 x.mem, .string x.bill, .int .i64 x.cham, .bool x.yes, .int .i64 x.idx, .slice A1 x.sig.length e1, .slice A2 x.path.length e2]), (.slice (some ⟨g1, 0, none⟩) 3 3, 27, [.int .i64 cc, .string bill, .slice AV nV eV]), (.slice (some ⟨w.heap.size, 0, none⟩) 5 5, 24, [.int .i64 ch, .slice A n e, .int .i64 q, .int .i64 nu, .int .i64 de])] A K AV l) w1.drew := hH.below (Below.refl _ _).drew
    have hbz0 : Below w1.heap.size w1 w1.drew := (Below.refl _ _).drew
    refine wp_region_noPanic ?_
    refine wp_region_L (LS w.heap.size [(.slice (some ⟨g2, 0, none⟩) 7 7, 33, [.int .i64 x.mem, .string x.bill, .int .i64 x.cham, .bool x.yes, .int .i64 x.idx, .slice A1 x.sig.length e1, .slice A2 x.path.length e2]), (.slice (some ⟨g1, 0, none⟩) 3 3, 27, [.int .i64 cc, .string bill, .slice AV nV eV]), (.slice (some ⟨w.heap.size, 0, none⟩) 5 5, 24, [.int .i64 ch, .slice A n e, .int .i64 q, .int .i64 nu, .int .i64 de])] A K AV l) 8 hmx ?_
    generalize w1.drew = u0 at *
    have hfin : ∀ c ∈ cs ++ [⟨x, A1, A2, e1, e2⟩], VtIn w1 w1.heap.size c.v c.A1 c.A2 c.e1 c.e2 := fun c hc => by
      rcases List.mem_append.1 hc with h | h
      · exact hcin c h
      · obtain rfl := List.mem_singleton.1 h
        exact hI
    refine wpAnyL_take (i := 1) (f0 := 12) (v := ?_) rfl (by decide +kernel) (by decide +kernel) (by decide +kernel) (by decide +kernel) (by decide +kernel) (fun _ _ _ h => h) (Or.inl ⟨by rfl, ?_⟩) hHeld ?_
    rotate_left
    · intro wS hS; go_simp; (try with_reducible rfl)
    simp only [Act.put, List.getElem_toArray, List.getElem_cons_succ, List.getElem_cons_zero, List.setIfInBounds_toArray, List.set_cons_succ, List.set_cons_zero]
    refine wpAnyL_take (i := 2) (f0 := 12) (v := ?_) rfl (by decide +kernel) (by decide +kernel) (by decide +kernel) (by decide +kernel) (by decide +kernel) (fun _ _ _ h => h) (Or.inl ⟨by rfl, ?_⟩) hHeld ?_
    rotate_left
    · intro wS hS; obtain ⟨p0, p1, p2⟩ := cells3 (hS.row (List.mem_cons_of_mem _ (List.mem_cons_self ..))); go_simp; (try with_reducible rfl)
    simp only [Act.put, List.getElem_toArray, List.getElem_cons_succ, List.getElem_cons_zero, List.setIfInBounds_toArray, List.set_cons_succ, List.set_cons_zero]
    refine wpAnyL_take (i := 4) (f0 := 12) (v := ?_) rfl (by decide +kernel) (by decide +kernel) (by decide +kernel) (by decide +kernel) (by decide +kernel) (fun _ _ _ h => h) (Or.inl ⟨by rfl, ?_⟩) hHeld ?_
    rotate_left
    · intro wS hS; obtain ⟨p0, p1, p2, p3, p4, p5, p6⟩ := cells7 (hS.row (List.mem_cons_self ..)); go_simp; (try with_reducible rfl)
    simp only [Act.put, List.getElem_toArray, List.getElem_cons_succ, List.getElem_cons_zero, List.setIfInBounds_toArray, List.set_cons_succ, List.set_cons_zero]
    refine wpAnyL_two (i := 0) (j := 5) (by decide +kernel) (by rfl) (by rfl) (fun KC hK => ?_) (fun KC hK => ?_)
    · rw [if_pos (by rfl)]
      go_simp
      have hx_1 := Below.news (Below.refl u0.heap.size u0) (.cells #[] 33)
      have hbz_1 := bnext hbz0 hx_1
      have hH_1 : (LS w.heap.size [(.slice (some ⟨g2, 0, none⟩) 7 7, 33, [.int .i64 x.mem, .string x.bill, .int .i64 x.cham, .bool x.yes, .int .i64 x.idx, .slice A1 x.sig.length e1, .slice A2 x.path.length e2]), (.slice (some ⟨g1, 0, none⟩) 3 3, 27, [.int .i64 cc, .string bill, .slice AV nV eV]), (.slice (some ⟨w.heap.size, 0, none⟩) 5 5, 24, [.int .i64 ch, .slice A n e, .int .i64 q, .int .i64 nu, .int .i64 de])] A K AV l) (u0.alloc (.cells #[] 33)) := hHeld.below hx_1
      have hltz_1 : u0.heap.size < (u0.alloc (.cells #[] 33)).heap.size := by simp
      have hO_1 := OwnC.emptyLit u0 w1.heap.size hbz0.size
      refine hK.out _ _ (Or.inr hH_1) ?_
      clear hK KC
      try simp only [Act.put, List.getElem_toArray, List.getElem_cons_succ, List.getElem_cons_zero, List.setIfInBounds_toArray, List.set_cons_succ, List.set_cons_zero]
      generalize hgen_1 : u0.alloc (.cells #[] 33) = u_1 at *
      generalize hg_1 : u0.heap.size = g_1 at *
      refine wpAnyL_two (i := 3) (j := 5) (by decide +kernel) (by rfl) (by rfl) (fun KC hK => ?_) (fun KC hK => ?_)
      · rw [if_pos (by rfl)]
        refine wp_ac (.tmp 15) (.tmp 17) (by rfl) w1.heap.size _ [] cs (by rfl) hO_1 AV nV eV (by rfl) hcl (hsrc.keep hbz_1) (by simp only [List.length_nil]; omega) hbz_1.size ?_
        intro v_2 u_2 hO_2 hx_2 hgr_2
        rw [List.nil_append] at hO_2
        have hbz_2 := hbz_1.trans hx_2
        have hH_2 : (LS w.heap.size [(.slice (some ⟨g2, 0, none⟩) 7 7, 33, [.int .i64 x.mem, .string x.bill, .int .i64 x.cham, .bool x.yes, .int .i64 x.idx, .slice A1 x.sig.length e1, .slice A2 x.path.length e2]), (.slice (some ⟨g1, 0, none⟩) 3 3, 27, [.int .i64 cc, .string bill, .slice AV nV eV]), (.slice (some ⟨w.heap.size, 0, none⟩) 5 5, 24, [.int .i64 ch, .slice A n e, .int .i64 q, .int .i64 nu, .int .i64 de])] A K AV l) u_2 := hH.below hbz_2
        refine hK.out _ _ (Or.inr hH_2) ?_
        clear hK KC
        try simp only [Act.put, List.getElem_toArray, List.getElem_cons_succ, List.getElem_cons_zero, List.setIfInBounds_toArray, List.set_cons_succ, List.set_cons_zero]
        refine wpAnyL_one (i := 5) (by decide +kernel) (by rfl) (fun KC hK => ?_)
        rw [if_pos (by rfl)]
        go_simp
        have hx_3 := Below.news (Below.refl u_2.heap.size u_2) (.cells #[.int .i64 x.mem, .string x.bill, .int .i64 x.cham, .bool x.yes, .int .i64 x.idx, .slice A1 x.sig.length e1, .slice A2 x.path.length e2] 33)
        have hbz_3 := bnext hbz_2 hx_3
        have hH_3 : (LS w.heap.size [(.slice (some ⟨g2, 0, none⟩) 7 7, 33, [.int .i64 x.mem, .string x.bill, .int .i64 x.cham, .bool x.yes, .int .i64 x.idx, .slice A1 x.sig.length e1, .slice A2 x.path.length e2]), (.slice (some ⟨g1, 0, none⟩) 3 3, 27, [.int .i64 cc, .string bill, .slice AV nV eV]), (.slice (some ⟨w.heap.size, 0, none⟩) 5 5, 24, [.int .i64 ch, .slice A n e, .int .i64 q, .int .i64 nu, .int .i64 de])] A K AV l) (u_2.alloc (.cells #[.int .i64 x.mem, .string x.bill, .int .i64 x.cham, .bool x.yes, .int .i64 x.idx, .slice A1 x.sig.length e1, .slice A2 x.path.length e2] 33)) := hH_2.below hx_3
        have hlit_3 := SrcC.lit u_2 ⟨x, A1, A2, e1, e2⟩ #[.int .i64 x.mem, .string x.bill, .int .i64 x.cham, .bool x.yes, .int .i64 x.idx, .slice A1 x.sig.length e1, .slice A2 x.path.length e2] 33 rfl
        have hlthlit_3 : u_2.heap.size < (u_2.alloc (.cells #[.int .i64 x.mem, .string x.bill, .int .i64 x.cham, .bool x.yes, .int .i64 x.idx, .slice A1 x.sig.length e1, .slice A2 x.path.length e2] 33)).heap.size := by simp
        have hO_3 := hO_2.below hx_3
        refine hK.out _ _ (Or.inr hH_3) ?_
        clear hK KC
        try simp only [Act.put, List.getElem_toArray, List.getElem_cons_succ, List.getElem_cons_zero, List.setIfInBounds_toArray, List.set_cons_succ, List.set_cons_zero]
        generalize hgen_3 : u_2.alloc (.cells #[.int .i64 x.mem, .string x.bill, .int .i64 x.cham, .bool x.yes, .int .i64 x.idx, .slice A1 x.sig.length e1, .slice A2 x.path.length e2] 33) = u_3 at *
        generalize hg_3 : u_2.heap.size = g_3 at *
        refine wpAnyL_one (i := 6) (by decide +kernel) (by rfl) (fun KC hK => ?_)
        rw [if_pos (by rfl)]
        refine wp_ac (.tmp 18) (.tmp 20) (by rfl) w1.heap.size _ cs [⟨x, A1, A2, e1, e2⟩] (by rfl) hO_3 (some ⟨g_3, 0, none⟩) 1 1 (by rfl) rfl hlit_3 (by omega) hbz_3.size ?_
        intro v_4 u_4 hOz hx_4 _
        have hbz_4 := hbz_3.trans hx_4
        have hH_4 : (LS w.heap.size [(.slice (some ⟨g2, 0, none⟩) 7 7, 33, [.int .i64 x.mem, .string x.bill, .int .i64 x.cham, .bool x.yes, .int .i64 x.idx, .slice A1 x.sig.length e1, .slice A2 x.path.length e2]), (.slice (some ⟨g1, 0, none⟩) 3 3, 27, [.int .i64 cc, .string bill, .slice AV nV eV]), (.slice (some ⟨w.heap.size, 0, none⟩) 5 5, 24, [.int .i64 ch, .slice A n e, .int .i64 q, .int .i64 nu, .int .i64 de])] A K AV l) u_4 := hH.below hbz_4
        refine hK.out _ _ (Or.inr hH_4) ?_
        clear hK KC
        try simp only [Act.put, List.getElem_toArray, List.getElem_cons_succ, List.getElem_cons_zero, List.setIfInBounds_toArray, List.set_cons_succ, List.set_cons_zero]
        refine wpAnyL_take (i := 7) (f0 := 12) (v := ?_) rfl (by decide +kernel) (by decide +kernel) (by decide +kernel) (by decide +kernel) (by decide +kernel) (fun _ _ _ h => h) (Or.inl ⟨by rfl, ?_⟩) hH_4 ?_
        rotate_left
        · intro wS hS; go_simp; (try with_reducible rfl)
        simp only [Act.put, List.getElem_toArray, List.getElem_cons_succ, List.getElem_cons_zero, List.setIfInBounds_toArray, List.set_cons_succ, List.set_cons_zero]
        refine wpAnyL_done (by decide +kernel) ?_ _
        refine NoPanic.normal ?_
        obtain ⟨A8, c8, rfl, hV8, hc8⟩ := hOz.vts (fun c hc => (hfin c hc).below hbz_4 |>.more hbz_4.size)
        go_wp2_with fail
        go_meet
        refine ⟨A8, c8, ?_, ?_, hbz_4⟩
        · rw [List.length_append, hcl]; rfl
        · rw [List.map_append, HCS.out] at hV8; exact hV8
      · rw [if_pos (by rfl)]
        go_simp
        have hx_5 := Below.news (Below.refl u_1.heap.size u_1) (.cells #[.int .i64 x.mem, .string x.bill, .int .i64 x.cham, .bool x.yes, .int .i64 x.idx, .slice A1 x.sig.length e1, .slice A2 x.path.length e2] 33)
        have hbz_5 := bnext hbz_1 hx_5
        have hH_5 : (LS w.heap.size [(.slice (some ⟨g2, 0, none⟩) 7 7, 33, [.int .i64 x.mem, .string x.bill, .int .i64 x.cham, .bool x.yes, .int .i64 x.idx, .slice A1 x.sig.length e1, .slice A2 x.path.length e2]), (.slice (some ⟨g1, 0, none⟩) 3 3, 27, [.int .i64 cc, .string bill, .slice AV nV eV]), (.slice (some ⟨w.heap.size, 0, none⟩) 5 5, 24, [.int .i64 ch, .slice A n e, .int .i64 q, .int .i64 nu, .int .i64 de])] A K AV l) (u_1.alloc (.cells #[.int .i64 x.mem, .string x.bill, .int .i64 x.cham, .bool x.yes, .int .i64 x.idx, .slice A1 x.sig.length e1, .slice A2 x.path.length e2] 33)) := hH_1.below hx_5
        have hlit_5 := SrcC.lit u_1 ⟨x, A1, A2, e1, e2⟩ #[.int .i64 x.mem, .string x.bill, .int .i64 x.cham, .bool x.yes, .int .i64 x.idx, .slice A1 x.sig.length e1, .slice A2 x.path.length e2] 33 rfl
        have hlthlit_5 : u_1.heap.size < (u_1.alloc (.cells #[.int .i64 x.mem, .string x.bill, .int .i64 x.cham, .bool x.yes, .int .i64 x.idx, .slice A1 x.sig.length e1, .slice A2 x.path.length e2] 33)).heap.size := by simp
        have hO_5 := hO_1.below hx_5
        refine hK.out _ _ (Or.inr hH_5) ?_
        clear hK KC
        try simp only [Act.put, List.getElem_toArray, List.getElem_cons_succ, List.getElem_cons_zero, List.setIfInBounds_toArray, List.set_cons_succ, List.set_cons_zero]
        generalize hgen_5 : u_1.alloc (.cells #[.int .i64 x.mem, .string x.bill, .int .i64 x.cham, .bool x.yes, .int .i64 x.idx, .slice A1 x.sig.length e1, .slice A2 x.path.length e2] 33) = u_5 at *
        generalize hg_5 : u_1.heap.size = g_5 at *
        refine wpAnyL_one (i := 3) (by decide +kernel) (by rfl) (fun KC hK => ?_)
        rw [if_pos (by rfl)]
        refine wp_ac (.tmp 15) (.tmp 17) (by rfl) w1.heap.size _ [] cs (by rfl) hO_5 AV nV eV (by rfl) hcl (hsrc.keep hbz_5) (by simp only [List.length_nil]; omega) hbz_5.size ?_
        intro v_6 u_6 hO_6 hx_6 hgr_6
        rw [List.nil_append] at hO_6
        have hbz_6 := hbz_5.trans hx_6
        have hH_6 : (LS w.heap.size [(.slice (some ⟨g2, 0, none⟩) 7 7, 33, [.int .i64 x.mem, .string x.bill, .int .i64 x.cham, .bool x.yes, .int .i64 x.idx, .slice A1 x.sig.length e1, .slice A2 x.path.length e2]), (.slice (some ⟨g1, 0, none⟩) 3 3, 27, [.int .i64 cc, .string bill, .slice AV nV eV]), (.slice (some ⟨w.heap.size, 0, none⟩) 5 5, 24, [.int .i64 ch, .slice A n e, .int .i64 q, .int .i64 nu, .int .i64 de])] A K AV l) u_6 := hH.below hbz_6
        have hlit_6 := hlit_5.grown hgr_6 (by simp only [Value.ownBlock, ne_eq, Option.some.injEq]; omega)
        refine hK.out _ _ (Or.inr hH_6) ?_
        clear hK KC
        try simp only [Act.put, List.getElem_toArray, List.getElem_cons_succ, List.getElem_cons_zero, List.setIfInBounds_toArray, List.set_cons_succ, List.set_cons_zero]
        refine wpAnyL_one (i := 6) (by decide +kernel) (by rfl) (fun KC hK => ?_)
        rw [if_pos (by rfl)]
        refine wp_ac (.tmp 18) (.tmp 20) (by rfl) w1.heap.size _ cs [⟨x, A1, A2, e1, e2⟩] (by rfl) hO_6 (some ⟨g_5, 0, none⟩) 1 1 (by rfl) rfl hlit_6 (by omega) hbz_6.size ?_
        intro v_7 u_7 hOz hx_7 _
        have hbz_7 := hbz_6.trans hx_7
        have hH_7 : (LS w.heap.size [(.slice (some ⟨g2, 0, none⟩) 7 7, 33, [.int .i64 x.mem, .string x.bill, .int .i64 x.cham, .bool x.yes, .int .i64 x.idx, .slice A1 x.sig.length e1, .slice A2 x.path.length e2]), (.slice (some ⟨g1, 0, none⟩) 3 3, 27, [.int .i64 cc, .string bill, .slice AV nV eV]), (.slice (some ⟨w.heap.size, 0, none⟩) 5 5, 24, [.int .i64 ch, .slice A n e, .int .i64 q, .int .i64 nu, .int .i64 de])] A K AV l) u_7 := hH.below hbz_7
        refine hK.out _ _ (Or.inr hH_7) ?_
        clear hK KC
        try simp only [Act.put, List.getElem_toArray, List.getElem_cons_succ, List.getElem_cons_zero, List.setIfInBounds_toArray, List.set_cons_succ, List.set_cons_zero]
        refine wpAnyL_take (i := 7) (f0 := 12) (v := ?_) rfl (by decide +kernel) (by decide +kernel) (by decide +kernel) (by decide +kernel) (by decide +kernel) (fun _ _ _ h => h) (Or.inl ⟨by rfl, ?_⟩) hH_7 ?_
        rotate_left
        · intro wS hS; go_simp; (try with_reducible rfl)
        simp only [Act.put, List.getElem_toArray, List.getElem_cons_succ, List.getElem_cons_zero, List.setIfInBounds_toArray, List.set_cons_succ, List.set_cons_zero]
        refine wpAnyL_done (by decide +kernel) ?_ _
        refine NoPanic.normal ?_
        obtain ⟨A8, c8, rfl, hV8, hc8⟩ := hOz.vts (fun c hc => (hfin c hc).below hbz_7 |>.more hbz_7.size)
        go_wp2_with fail
        go_meet
        refine ⟨A8, c8, ?_, ?_, hbz_7⟩
        · rw [List.length_append, hcl]; rfl
        · rw [List.map_append, HCS.out] at hV8; exact hV8
    · rw [if_pos (by rfl)]
      go_simp
      have hx_8 := Below.news (Below.refl u0.heap.size u0) (.cells #[.int .i64 x.mem, .string x.bill, .int .i64 x.cham, .bool x.yes, .int .i64 x.idx, .slice A1 x.sig.length e1, .slice A2 x.path.length e2] 33)
      have hbz_8 := bnext hbz0 hx_8
      have hH_8 : (LS w.heap.size [(.slice (some ⟨g2, 0, none⟩) 7 7, 33, [.int .i64 x.mem, .string x.bill, .int .i64 x.cham, .bool x.yes, .int .i64 x.idx, .slice A1 x.sig.length e1, .slice A2 x.path.length e2]), (.slice (some ⟨g1, 0, none⟩) 3 3, 27, [.int .i64 cc, .string bill, .slice AV nV eV]), (.slice (some ⟨w.heap.size, 0, none⟩) 5 5, 24, [.int .i64 ch, .slice A n e, .int .i64 q, .int .i64 nu, .int .i64 de])] A K AV l) (u0.alloc (.cells #[.int .i64 x.mem, .string x.bill, .int .i64 x.cham, .bool x.yes, .int .i64 x.idx, .slice A1 x.sig.length e1, .slice A2 x.path.length e2] 33)) := hHeld.below hx_8
      have hlit_8 := SrcC.lit u0 ⟨x, A1, A2, e1, e2⟩ #[.int .i64 x.mem, .string x.bill, .int .i64 x.cham, .bool x.yes, .int .i64 x.idx, .slice A1 x.sig.length e1, .slice A2 x.path.length e2] 33 rfl
      have hlthlit_8 : u0.heap.size < (u0.alloc (.cells #[.int .i64 x.mem, .string x.bill, .int .i64 x.cham, .bool x.yes, .int .i64 x.idx, .slice A1 x.sig.length e1, .slice A2 x.path.length e2] 33)).heap.size := by simp
      refine hK.out _ _ (Or.inr hH_8) ?_
      clear hK KC
      try simp only [Act.put, List.getElem_toArray, List.getElem_cons_succ, List.getElem_cons_zero, List.setIfInBounds_toArray, List.set_cons_succ, List.set_cons_zero]
      generalize hgen_8 : u0.alloc (.cells #[.int .i64 x.mem, .string x.bill, .int .i64 x.cham, .bool x.yes, .int .i64 x.idx, .slice A1 x.sig.length e1, .slice A2 x.path.length e2] 33) = u_8 at *
      generalize hg_8 : u0.heap.size = g_8 at *
      refine wpAnyL_one (i := 0) (by decide +kernel) (by rfl) (fun KC hK => ?_)
      rw [if_pos (by rfl)]
      go_simp
      have hx_9 := Below.news (Below.refl u_8.heap.size u_8) (.cells #[] 33)
      have hbz_9 := bnext hbz_8 hx_9
      have hH_9 : (LS w.heap.size [(.slice (some ⟨g2, 0, none⟩) 7 7, 33, [.int .i64 x.mem, .string x.bill, .int .i64 x.cham, .bool x.yes, .int .i64 x.idx, .slice A1 x.sig.length e1, .slice A2 x.path.length e2]), (.slice (some ⟨g1, 0, none⟩) 3 3, 27, [.int .i64 cc, .string bill, .slice AV nV eV]), (.slice (some ⟨w.heap.size, 0, none⟩) 5 5, 24, [.int .i64 ch, .slice A n e, .int .i64 q, .int .i64 nu, .int .i64 de])] A K AV l) (u_8.alloc (.cells #[] 33)) := hH_8.below hx_9
      have hltz_9 : u_8.heap.size < (u_8.alloc (.cells #[] 33)).heap.size := by simp
      have hO_9 := OwnC.emptyLit u_8 w1.heap.size hbz_8.size
      have hlit_9 := hlit_8.keep hx_9
      have hne_9 : g_8 ≠ u_8.heap.size := by have := hlthlit_8; omega
      have hlthlit_9 : g_8 < (u_8.alloc (.cells #[] 33)).heap.size := by have := hlthlit_8; have := hx_9.size; omega
      refine hK.out _ _ (Or.inr hH_9) ?_
      clear hK KC
      try simp only [Act.put, List.getElem_toArray, List.getElem_cons_succ, List.getElem_cons_zero, List.setIfInBounds_toArray, List.set_cons_succ, List.set_cons_zero]
      generalize hgen_9 : u_8.alloc (.cells #[] 33) = u_9 at *
      generalize hg_9 : u_8.heap.size = g_9 at *
      refine wpAnyL_one (i := 3) (by decide +kernel) (by rfl) (fun KC hK => ?_)
      rw [if_pos (by rfl)]
      refine wp_ac (.tmp 15) (.tmp 17) (by rfl) w1.heap.size _ [] cs (by rfl) hO_9 AV nV eV (by rfl) hcl (hsrc.keep hbz_9) (by simp only [List.length_nil]; omega) hbz_9.size ?_
      intro v_10 u_10 hO_10 hx_10 hgr_10
      rw [List.nil_append] at hO_10
      have hbz_10 := hbz_9.trans hx_10
      have hH_10 : (LS w.heap.size [(.slice (some ⟨g2, 0, none⟩) 7 7, 33, [.int .i64 x.mem, .string x.bill, .int .i64 x.cham, .bool x.yes, .int .i64 x.idx, .slice A1 x.sig.length e1, .slice A2 x.path.length e2]), (.slice (some ⟨g1, 0, none⟩) 3 3, 27, [.int .i64 cc, .string bill, .slice AV nV eV]), (.slice (some ⟨w.heap.size, 0, none⟩) 5 5, 24, [.int .i64 ch, .slice A n e, .int .i64 q, .int .i64 nu, .int .i64 de])] A K AV l) u_10 := hH.below hbz_10
      have hlit_10 := hlit_9.grown hgr_10 (by simp only [Value.ownBlock, ne_eq, Option.some.injEq]; omega)
      refine hK.out _ _ (Or.inr hH_10) ?_
      clear hK KC
      try simp only [Act.put, List.getElem_toArray, List.getElem_cons_succ, List.getElem_cons_zero, List.setIfInBounds_toArray, List.set_cons_succ, List.set_cons_zero]
      refine wpAnyL_one (i := 6) (by decide +kernel) (by rfl) (fun KC hK => ?_)
      rw [if_pos (by rfl)]
      refine wp_ac (.tmp 18) (.tmp 20) (by rfl) w1.heap.size _ cs [⟨x, A1, A2, e1, e2⟩] (by rfl) hO_10 (some ⟨g_8, 0, none⟩) 1 1 (by rfl) rfl hlit_10 (by omega) hbz_10.size ?_
      intro v_11 u_11 hOz hx_11 _
      have hbz_11 := hbz_10.trans hx_11
      have hH_11 : (LS w.heap.size [(.slice (some ⟨g2, 0, none⟩) 7 7, 33, [.int .i64 x.mem, .string x.bill, .int .i64 x.cham, .bool x.yes, .int .i64 x.idx, .slice A1 x.sig.length e1, .slice A2 x.path.length e2]), (.slice (some ⟨g1, 0, none⟩) 3 3, 27, [.int .i64 cc, .string bill, .slice AV nV eV]), (.slice (some ⟨w.heap.size, 0, none⟩) 5 5, 24, [.int .i64 ch, .slice A n e, .int .i64 q, .int .i64 nu, .int .i64 de])] A K AV l) u_11 := hH.below hbz_11
      refine hK.out _ _ (Or.inr hH_11) ?_
      clear hK KC
      try simp only [Act.put, List.getElem_toArray, List.getElem_cons_succ, List.getElem_cons_zero, List.setIfInBounds_toArray, List.set_cons_succ, List.set_cons_zero]
      refine wpAnyL_take (i := 7) (f0 := 12) (v := ?_) rfl (by decide +kernel) (by decide +kernel) (by decide +kernel) (by decide +kernel) (by decide +kernel) (fun _ _ _ h => h) (Or.inl ⟨by rfl, ?_⟩) hH_11 ?_
      rotate_left
      · intro wS hS; go_simp; (try with_reducible rfl)
      simp only [Act.put, List.getElem_toArray, List.getElem_cons_succ, List.getElem_cons_zero, List.setIfInBounds_toArray, List.set_cons_succ, List.set_cons_zero]
      refine wpAnyL_done (by decide +kernel) ?_ _
      refine NoPanic.normal ?_
      obtain ⟨A8, c8, rfl, hV8, hc8⟩ := hOz.vts (fun c hc => (hfin c hc).below hbz_11 |>.more hbz_11.size)
      go_wp2_with fail
      go_meet
      refine ⟨A8, c8, ?_, ?_, hbz_11⟩
      · rw [List.length_append, hcl]; rfl
      · rw [List.map_append, HCS.out] at hV8; exact hV8
  case rest =>
    obtain ⟨A8, c8, rfl, hV8, hb8⟩ := hcut
    clear hsrc hcin hcl HCS
    replace hH := hH.below hb8
    replace hI := hI.keep hb8
    replace hb := bnext hb hb8
    clear hb8
    have hl8 : (l ++ [x]).length = nV + 1 := by rw [List.length_append, HL.out]; rfl
    have hv8 : ∀ v ∈ l ++ [x], VtW v := fun v hv => by
      rcases List.mem_append.1 hv with h | h
      · exact HV.out v h
      · obtain rfl := List.mem_singleton.1 h
        exact hx
    have HL8 := hide hl8; have HV8 := hide hv8; clear hl8 hv8 hx
    obtain ⟨r0, r1, r2, r3, r4⟩ := cells5 (hH.row (List.mem_cons_of_mem _ (List.mem_cons_of_mem _ (List.mem_cons_self ..))))
    obtain ⟨c0, c1, c2⟩ := cells3 (hH.row (List.mem_cons_of_mem _ (List.mem_cons_self ..)))
    go_wp2_with fail
    cases hfew : fewVB K (l ++ [x]) 8 with
    | false =>
      refine (few39_of ch q nu de A n e K A8 (nV + 1) c8 (l ++ [x]) false hfew _ HK.out kn HKZ.out hH.key HL8.out (by omega) HV8.out hV8).mono ?_
      rintro r w2 ⟨rfl, hb2⟩
      replace hV8 := hV8.keep hb2
      replace hH := hH.below hb2
      replace hI := hI.keep hb2
      replace hb := bnext hb hb2
      clear hb2
      clear hfew
      go_wp2
      go_ret
      exact ⟨rfl, hb⟩
    | true =>
      have F := few_spec hfew
      have HF := hide hfew; clear hfew
      refine (few39_of ch q nu de A n e K A8 (nV + 1) c8 (l ++ [x]) true HF.out _ HK.out kn HKZ.out hH.key HL8.out (by omega) HV8.out hV8).mono ?_
      rintro r w2 ⟨rfl, hb2⟩
      replace hV8 := hV8.keep hb2
      replace hH := hH.below hb2
      replace hI := hI.keep hb2
      replace hb := bnext hb hb2
      clear hb2
      clear r0 r1 r2 r3 r4 c0 c1 c2
      have kn2 : n ≤ 10 := by rw [← HK.out]; exact F.nk
      have hn2 : nV + 1 ≤ 8 := by rw [← HL8.out]; exact F.nl
      have KZ := hide F.key
      have VZ8 := hide (F.vt0 HV8.out)
      have VZ := hide (fun v hv => VZ8.out v (List.mem_append_left _ hv))
      clear F HF HKZ HV HV8 hnb
      obtain ⟨r0, r1, r2, r3, r4⟩ := cells5 (hH.row (List.mem_cons_of_mem _ (List.mem_cons_of_mem _ (List.mem_cons_self ..))))
      obtain ⟨c0, c1, c2⟩ := cells3 (hH.row (List.mem_cons_of_mem _ (List.mem_cons_self ..)))
      by_cases h100 : bill.size ≤ 100
      rotate_left
      · have d1 : decide ((100 : Int) < (bill.size : Int)) = true := dec_t (by omega)
        have d2 : decide (100 < bill.size) = true := dec_t (by omega)
        clear h100
        go_wp2
        go_ret
        exact ⟨rfl, hb⟩
      have d1 : decide ((100 : Int) < (bill.size : Int)) = false := dec_f (by omega)
      have d2 : decide (100 < bill.size) = false := dec_f (by omega)
      go_wp2_with fail
      obtain ⟨E1, hE1⟩ : ∃ E, Dg.carE ⟨ch, K, q, nu, de⟩ cc bill l = E := ⟨_, rfl⟩
      obtain ⟨E2, hE2⟩ : ∃ E, Dg.carE ⟨ch, K, q, nu, de⟩ cc bill (l ++ [x]) = E := ⟨_, rfl⟩
      have hcm := hide (fun hok => Dg.car_more ⟨ch, K, q, nu, de⟩ cc bill l x (by rw [HL.out]; exact hn2) hok E1 E2 hE1 hE2)
      have HE1 := hide hE1; have HE2 := hide hE2; clear hE1 hE2
      refine (carried_of ch q nu de A n e K cc bill AV nV eV l _ hH.env HK.out (by omega) KZ.out hH.key HL.out (by omega) VZ.out hH.vts (by omega) E1 HE1.out).mono ?_
      rintro r w3 ⟨rfl, hb3⟩
      replace hV8 := hV8.keep hb3
      replace hH := hH.below hb3
      replace hI := hI.keep hb3
      replace hb := bnext hb hb3
      clear hb3
      clear r0 r1 r2 r3 r4 c0 c1 c2
      obtain ⟨r0, r1, r2, r3, r4⟩ := cells5 (hH.row (List.mem_cons_of_mem _ (List.mem_cons_of_mem _ (List.mem_cons_self ..))))
      obtain ⟨c0, c1, c2⟩ := cells3 (hH.row (List.mem_cons_of_mem _ (List.mem_cons_self ..)))
      clear d1 d2
      go_wp2_with fail
      obtain ⟨Bd, hBd⟩ : ∃ Bd, (Dg.cnt ⟨ch, K, q, nu, de⟩ bill (l ++ [x])).bad = Bd := ⟨_, rfl⟩
      have hsum := cnt_sum ⟨ch, K, q, nu, de⟩ bill (l ++ [x])
      rw [hBd, HL8.out] at hsum
      have hlast := Dg.ok_last ⟨ch, K, q, nu, de⟩ bill l x
      rw [hBd, HL.out] at hlast
      have hcm2 : Bd.getLast? ≠ some nV → (E1 = 0 → x.yes = true → E2 = 0) ∧ (E1 = 12 → x.yes = false → E2 = 12) := fun h => hcm.out (by rw [HL.out]; exact hlast h)
      have HBd := hide hBd; clear hBd hlast hcm
      have hbl : (Bd.map Int.ofNat).length = Bd.length := List.length_map _
      refine (counted_of ch q nu de A n e K bill A8 (nV + 1) c8 (l ++ [x]) _ hH.env HK.out (by omega) KZ.out hH.key HL8.out (by omega) VZ8.out hV8 _ _ (Bd.map Int.ofNat) rfl rfl (by rw [HBd.out]) Bd.length hbl).mono ?_
      rintro r w5 ⟨Ab, cb, rfl, hNm, hb5⟩
      replace hV8 := hV8.keep hb5
      replace hH := hH.below hb5
      replace hI := hI.keep hb5
      replace hb := bnext hb hb5
      clear hb5
      clear r0 r1 r2 r3 r4 c0 c1 c2
      obtain ⟨r0, r1, r2, r3, r4⟩ := cells5 (hH.row (List.mem_cons_of_mem _ (List.mem_cons_of_mem _ (List.mem_cons_self ..))))
      obtain ⟨c0, c1, c2⟩ := cells3 (hH.row (List.mem_cons_of_mem _ (List.mem_cons_self ..)))
      obtain ⟨x0, x1, x2, x3, x4, x5, x6⟩ := cells7 (hH.row (List.mem_cons_self ..))
      generalize ((Dg.cnt ⟨ch, K, q, nu, de⟩ bill (l ++ [x])).yes : Int) = Y at *
      generalize ((Dg.cnt ⟨ch, K, q, nu, de⟩ bill (l ++ [x])).no : Int) = X at *
      have hgl : Bd.getLast? = Bd[Bd.length - 1]? := List.getLast?_eq_getElem?
      rw [hgl] at hcm2
      have hb9 : Bd.length ≤ 9 := by omega
      clear hgl hsum HBd
      generalize hbn : Bd.length = bn at *
      go_upto_region 7 with (fail)
      go_cut [59] from 45 to 59 (fun v wx => ∃ bb : Bool, v = .bool bb ∧ Below w5.heap.size w5 wx ∧ (bb = false → (E1 = 0 → x.yes = true → E2 = 0) ∧ (E1 = 12 → x.yes = false → E2 = 12)))
      case first =>
        by_cases hb0 : bn = 0
        · subst hb0
          have d1 : decide ((0 : Int) < ((0 : Nat) : Int)) = false := by decide
          go_quiet (fail)
          go_wp2_with fail
          go_meet
          exact ⟨false, rfl, below_drewN (Below.refl _ _) _, fun _ => hcm2 (by rw [List.getElem?_eq_none (by omega)]; simp)⟩
        · obtain ⟨k, hk⟩ : ∃ k, bn = k + 1 := ⟨bn - 1, by omega⟩
          have d1 : decide ((0 : Int) < (bn : Int)) = true := dec_t (by omega)
          have d1' : decide (0 < bn) = true := dec_t (by omega)
          have hkl : k < (Bd.map Int.ofNat).length := by omega
          obtain ⟨b', off', rfl, hb', hcell⟩ := hNm.get (k := k) hkl
          have hkb : k < Bd.length := by omega
          have hval : (Bd.map Int.ofNat)[k] = ((Bd[k] : Nat) : Int) := by rw [List.getElem_map]; rfl
          rw [hval] at hcell
          have hkk : bn - 1 = k := by omega
          rw [hkk, List.getElem?_eq_getElem hkb] at hcm2
          generalize Bd[k] = y at *
          have e1 : (bn : Int) - 1 = (k : Int) := by omega
          have k0 : (0 : Int) ≤ (k : Int) := by omega
          have kn3 : (k : Int) < (bn : Int) := by omega
          clear hk hkk
          by_cases hy : y = nV
          · subst hy
            have f1 : ((y : Int) == (y : Int)) = true := beq_self_eq_true _
            clear hcm2
            go_quiet (fail)
            go_wp2_with fail
            go_meet
            exact ⟨true, rfl, below_drewN (Below.refl _ _) _, fun h => by cases h⟩
          · have f1 : ((y : Int) == (nV : Int)) = false := beq_eq_false_iff_ne.2 (by omega)
            have hcm3 := hide (hcm2 (by simpa using hy))
            clear hcm2
            go_quiet (fail)
            go_wp2_with fail
            go_meet
            exact ⟨false, rfl, below_drewN (Below.refl _ _) _, fun _ => hcm3.out⟩
      case rest =>
        obtain ⟨bb, rfl, hb6, hcm3⟩ := hcut
        replace hV8 := hV8.keep hb6
        replace hH := hH.below hb6
        replace hI := hI.keep hb6
        replace hb := bnext hb hb6
        clear hb6
        have HC := hide hcm3; clear hcm2 hcm3
        clear r0 r1 r2 r3 r4 c0 c1 c2 x0 x1 x2 x3 x4 x5 x6
        obtain ⟨r0, r1, r2, r3, r4⟩ := cells5 (hH.row (List.mem_cons_of_mem _ (List.mem_cons_of_mem _ (List.mem_cons_self ..))))
        obtain ⟨c0, c1, c2⟩ := cells3 (hH.row (List.mem_cons_of_mem _ (List.mem_cons_self ..)))
        obtain ⟨x0, x1, x2, x3, x4, x5, x6⟩ := cells7 (hH.row (List.mem_cons_self ..))
        cases bb with
        | true =>
          clear HC
          go_wp2
          go_ret
          exact ⟨rfl, hb⟩
        | false =>
          obtain ⟨m1, m2⟩ := HC.out rfl
          have HM1 := hide m1; have HM2 := hide m2; clear m1 m2 HC
          go_wp2_with fail
          refine (carried_of ch q nu de A n e K cc bill A8 (nV + 1) c8 (l ++ [x]) _ hH.env HK.out (by omega) KZ.out hH.key HL8.out (by omega) VZ8.out hV8 (by omega) E2 HE2.out).mono ?_
          rintro r w7 ⟨rfl, hb7⟩
          replace hV8 := hV8.keep hb7
          replace hH := hH.below hb7
          replace hI := hI.keep hb7
          replace hb := bnext hb hb7
          clear hb7
          clear r0 r1 r2 r3 r4 c0 c1 c2 x0 x1 x2 x3 x4 x5 x6
          obtain ⟨r0, r1, r2, r3, r4⟩ := cells5 (hH.row (List.mem_cons_of_mem _ (List.mem_cons_of_mem _ (List.mem_cons_self ..))))
          obtain ⟨c0, c1, c2⟩ := cells3 (hH.row (List.mem_cons_of_mem _ (List.mem_cons_self ..)))
          obtain ⟨x0, x1, x2, x3, x4, x5, x6⟩ := cells7 (hH.row (List.mem_cons_self ..))
          clear HE1 HE2
          cases hy : x.yes with
          | true =>
            rw [hy] at x3
            by_cases q0 : E1 = 0
            · subst q0
              obtain rfl := HM1.out rfl hy
              clear hy HM1 HM2
              go_wp2
              go_ret
              exact ⟨rfl, hb⟩
            · by_cases q1 : E1 = 12
              · subst q1
                clear hy HM1 HM2 q0
                go_wp2
                go_ret
                exact ⟨rfl, hb⟩
              · have f1 : (E1 != 0) = true := bne_iff_ne.2 q0
                have f2 : (E1 != 12) = true := bne_iff_ne.2 q1
                have f3 : (E1 == 0) = false := beq_eq_false_iff_ne.2 q0
                have f4 : (E1 == 12) = false := beq_eq_false_iff_ne.2 q1
                clear hy HM1 HM2 q0 q1
                go_wp2
                go_ret
                exact ⟨rfl, hb⟩
          | false =>
            rw [hy] at x3
            by_cases q0 : E1 = 0
            · subst q0
              clear hy HM1 HM2
              go_wp2
              go_ret
              exact ⟨rfl, hb⟩
            · by_cases q1 : E1 = 12
              · subst q1
                obtain rfl := HM2.out rfl hy
                clear hy HM1 HM2 q0
                go_wp2
                go_ret
                exact ⟨rfl, hb⟩
              · have f1 : (E1 != 0) = true := bne_iff_ne.2 q0
                have f2 : (E1 != 12) = true := bne_iff_ne.2 q1
                have f3 : (E1 == 0) = false := beq_eq_false_iff_ne.2 q0
                have f4 : (E1 == 12) = false := beq_eq_false_iff_ne.2 q1
                clear hy HM1 HM2 q0 q1
                go_wp2
                go_ret
                exact ⟨rfl, hb⟩
end Go.Proofs.YtgncahnkkpjdpaaDoor
/- How many votes a certificate that came in can hold: by the reach of its slice. No conditions. -/
namespace Go.Proofs.YtgncahnkkpjdpaaDoor
open Go Go.RowKit Go.ChangeShapes Go.WideShapes Go.ChangeAt Go.WideMaps Go.WideElems Go.Joins Go.Deep
variable {H : Type} {enc : TypeId × Value → H}
theorem bytesVote : Tryd.prog.bytesOf 33 = 96 := by kernel_rfl
set_option maxRecDepth 100000 in
theorem cert_sized {W : World} {cc : Int} {b : ByteArray} {A : Option Addr} {len c : Nat} {d : DataW H} {p : List MemPlace} (h : DataW.Trod enc Tryd.prog W 0 (fun _ => true) true 27 (.agg #[.int .i64 cc, .string b, .slice A len c]) d p)
    (hsz : ∀ x ∈ d.weights Tryd.prog 27, x ≤ reachBytes) : len * 96 ≤ 140737488351232 := by
  obtain ⟨fuel, hf0⟩ := h
  obtain ⟨xs, n, _, hx, _, hxl, hf⟩ := DataW.trod_struct Tryd.underlying27 hf0
  match xs, hxl, hx with
  | [y0, y1, y2], _, hx =>
    have f2 : DataW.trod enc Tryd.prog W 0 (fun _ => true) true n 25 [.slice A len c] = some y2 := by simpa [Value.cells, cVotes] using hf 2 _ rfl
    rcases open_slice Tryd.underlying25 f2 with ⟨hcs, _⟩ | ⟨a, len', cap, m, k, D, Pl, hcs, _, _, _, _, hy, _⟩
    · simp only [List.cons.injEq, and_true, Value.slice.injEq] at hcs
      omega
    · simp only [List.cons.injEq, and_true, Value.slice.injEq] at hcs
      obtain ⟨_, rfl, _⟩ := hcs
      have hd : d = .agg [y0.1, y1.1, y2.1] := congrArg Prod.fst hx
      have h2 : (((List.range len).map D).length + ((List.range (m - len)).map fun j => D (len + j)).length) * Tryd.prog.bytesOf 33 ∈ d.weights Tryd.prog 27 := by
        rw [hd, hy]
        simp only [DataW.weights, Tryd.underlying27, Tryd.underlying25, DataW.weightsEach, List.map_cons, List.map_nil, List.mem_append, List.mem_cons, true_or, or_true]
      have h3 := hsz _ h2
      rw [bytesVote, List.length_map, List.length_range] at h3
      unfold reachBytes at h3
      have : len * 96 ≤ (len + ((List.range (m - len)).map fun j => D (len + j)).length) * 96 := Nat.mul_le_mul_right _ (Nat.le_add_right _ _)
      omega
end Go.Proofs.YtgncahnkkpjdpaaDoor
