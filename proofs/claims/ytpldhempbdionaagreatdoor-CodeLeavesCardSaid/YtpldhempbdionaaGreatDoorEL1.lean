/- Walks and laws of this seat, several texts in one: RegT, C37, C36, C38. No conditions but those that each theorem states. -/
import Derived.Test.YtpldhempbdionaaGreatDoorEA4
import Derived.Below
/- Two operations that may come up. No conditions but those that each theorem states. -/
namespace Go.Proofs.YtpldhempbdionaaGreatDoor
open Go Go.RowKit
section
variable {P : Program} {ops : Array Oper} {Q : Exit → Act → World → Prop} {md : Region.Mode} {S : World → Prop} {k : Nat}
theorem wpAnyL_duo {i j : Nat} {oi oj : Oper} {fuel : Nat} {listed : Array Bool} {a : Act} {w : World} (hr : Region.ready md ops listed = [i, j]) (hoi : ops[i]? = some oi) (hoj : ops[j]? = some oj)
    (h1 : ∀ K' : Act → World → Prop, Hid (∀ a w, SL S k (listed.setIfInBounds i true) w → wpAnyL P md ops Q S k fuel (listed.setIfInBounds i true) a w → K' a w) → if Region.wanted oi (yielded ops a.tmps) = true then Oper.wp P oi a w K' Q else K' (a.put oi.dst undef) w)
    (h2 : ∀ K' : Act → World → Prop, Hid (∀ a w, SL S k (listed.setIfInBounds j true) w → wpAnyL P md ops Q S k fuel (listed.setIfInBounds j true) a w → K' a w) → if Region.wanted oj (yielded ops a.tmps) = true then Oper.wp P oj a w K' Q else K' (a.put oj.dst undef) w) : wpAnyL P md ops Q S k (fuel + 1) listed a w :=
  ⟨fun h0 => absurd (hr.symm.trans h0) (by simp), fun x hx => by
    rw [hr] at hx
    rcases List.mem_cons.1 hx with rfl | hx
    · exact wpOp_step hoi (fun K' hK => h1 K' (fun a w hS hW => hK a w ⟨hS, hW⟩))
    · obtain rfl := List.mem_singleton.1 hx
      exact wpOp_step hoj (fun K' hK => h2 K' (fun a w hS hW => hK a w ⟨hS, hW⟩))⟩
end
end Go.Proofs.YtpldhempbdionaaGreatDoor
/- Items of the call's own: a store, pieces. No conditions but those that each theorem states. -/
namespace Go.Proofs.YtpldhempbdionaaGreatDoor
open Go Go.RowKit Go.Sort Go.Maps
theorem OwnI.full {w : World} {B : Nat} {v : Value} {l : List Dg.It} (h : OwnI w B v l) (h0 : 0 < l.length) : ∃ g cap, v = .slice (some ⟨g, 0, none⟩) l.length cap ∧ B ≤ g ∧ g < w.heap.size ∧ l.length ≤ cap ∧ ∃ cs, w.heap[g]? = some (.cells cs 31 (0, 0)) := by
  have h' := h
  unfold OwnI at h'
  rcases h'.2 with ⟨_, h1⟩ | ⟨g, cap, cur, hv, hb, hg, h2, _⟩
  · omega
  · exact ⟨g, cap, hv, hb, lt_of_block hg, h2, cur, hg⟩
theorem itL_set (l : List Dg.It) (i : Nat) (hi : i < l.length) : (l.flatMap itL).set (i * 7 + 3) (.string Dg.nil8) = (l.set i (Dg.bareI l[i])).flatMap itL := by
  apply List.ext_getElem?
  intro t
  rw [List.getElem?_set, itL_len]
  by_cases ht : t < l.length * 7
  · have hd : t / 7 < l.length := by omega
    have hm : t % 7 < 7 := Nat.mod_lt _ (by omega)
    have et : t = t / 7 * 7 + t % 7 := by omega
    have hs : (l.set i (Dg.bareI l[i]))[t / 7]? = some (if i = t / 7 then Dg.bareI l[i] else l[t / 7]) := by
      rw [List.getElem?_set, List.getElem?_eq_getElem hd]
      split
      · rfl
      · rfl
    have h1 := itL_get (l.set i (Dg.bareI l[i])) (t / 7) (t % 7) _ hs hm
    have h2 := itL_get l (t / 7) (t % 7) _ (List.getElem?_eq_getElem hd) hm
    rw [← et] at h1 h2
    rw [h1, h2]
    by_cases e : i = t / 7
    · rw [if_pos e]
      by_cases e3 : t % 7 = 3
      · rw [if_pos (by omega), if_pos (by omega), e3]
        rfl
      · rw [if_neg (by omega)]
        have ex : l[t / 7] = l[i] := by simp only [e]
        rw [ex]
        generalize l[i] = x
        generalize t % 7 = m at *
        match m, hm with
        | 0, _ => rfl
        | 1, _ => rfl
        | 2, _ => rfl
        | 3, _ => exact absurd rfl e3
        | 4, _ => rfl
        | 5, _ => rfl
        | 6, _ => rfl
    · rw [if_neg e, if_neg (by omega)]
  · rw [if_neg (by omega), List.getElem?_eq_none (by rw [itL_len]; omega), List.getElem?_eq_none (by rw [itL_len, List.length_set]; omega)]
theorem OwnI.bare {w : World} {B g n cap : Nat} {l : List Dg.It} (h : OwnI w B (.slice (some ⟨g, 0, none⟩) n cap) l) (hn : l.length = n) (i : Nat) (hi : i < l.length) : OwnI (w.setCell ⟨g, i * 7 + 3, none⟩ (.string Dg.nil8)) B (.slice (some ⟨g, 0, none⟩) n cap) (l.set i (Dg.bareI l[i])) := by
  unfold OwnI at *
  rw [List.length_set, ← itL_set l i hi]
  rw [hn] at h ⊢
  exact (h.stored (i * 7 + 3) _).1
theorem OwnI.it {w : World} {B g n cap : Nat} {l : List Dg.It} (h : OwnI w B (.slice (some ⟨g, 0, none⟩) n cap) l) : Its w w.heap.size (some ⟨g, 0, none⟩) l := by
  obtain ⟨A, c, e, _, hI⟩ := h.its
  injection e with e1 _ _
  rw [e1]; exact hI
/-- The items from a place on. -/
theorem Its.drop {w : World} {B b off : Nat} {l : List Dg.It} (h : Its w B (Option.some ⟨b, off, none⟩) l) (k : Nat) : Its w B (Option.some ⟨b, off + k * 7, none⟩) (l.drop k) :=
  ⟨fun h0 => by
    rw [List.length_drop] at h0
    obtain ⟨b', off', e, hb, hc⟩ := h.at_ (by omega)
    cases e
    refine ⟨b, off + k * 7, rfl, hb, fun j x hj i u hu => ?_⟩
    rw [List.getElem?_drop] at hj
    have := hc (k + j) x hj i u hu
    rw [show off + (k + j) * 7 + i = off + k * 7 + j * 7 + i by omega] at this
    exact this⟩
theorem src_drop {w : World} {B b off : Nat} {l : List Dg.It} (h : Its w B (some ⟨b, off, none⟩) l) (c k : Nat) (hc : l.length ≤ c) : SrcI w (if c = k then some ⟨b, off, none⟩ else some ⟨b, off + k * 7, none⟩) (l.drop k) := by
  by_cases e : c = k
  · exact Or.inl (List.drop_eq_nil_iff.2 (by omega))
  · rw [if_neg e]
    exact (h.drop k).src
theorem own_ne {w : World} {B : Nat} {v : Value} {l : List Dg.It} (h : OwnI w B v l) {g : Nat} {cs : Array Value} (hr : w.heap[g]? = some (.cells cs 24 (0, 0))) : ∀ k, v.ownBlock = some k → k ≠ g := fun k hk e => by
  unfold OwnI at h
  rcases h.2 with ⟨h0, _⟩ | ⟨g', cap, cur, hv, _, hg, _⟩
  · rw [h0] at hk; cases hk
  · rw [hv] at hk
    cases hk
    have e' : g' = g := e
    rw [e', hr] at hg
    injection hg with hg
    injection hg with _ h9 _
    exact absurd h9 (by decide)
theorem OwnI.far {w : World} {B : Nat} {v : Value} {l : List Dg.It} (h : OwnI w B v l) {g : Nat} {cs : Array Value} (hr : w.heap[g]? = some (.cells cs 24 (0, 0))) (u : Value) : OwnI (w.setCell ⟨g, 0, none⟩ u) B v l := by
  have hne := own_ne h hr
  unfold OwnI at *
  refine ⟨h.1, ?_⟩
  rcases h.2 with h0 | ⟨g', cap, cur, hv, hb, hg, r⟩
  · exact Or.inl h0
  · exact Or.inr ⟨g', cap, cur, hv, hb, (Below.heap_setCell _ _ _ _ (hne g' (by rw [hv]; rfl))).trans hg, r⟩
theorem OwnI.it' {w : World} {B n cap : Nat} {A : Option Addr} {l : List Dg.It} (h : OwnI w B (.slice A n cap) l) : Its w w.heap.size A l := by
  obtain ⟨A', c, e, _, hI⟩ := h.its
  injection e with e1 _ _
  rw [e1]; exact hI
theorem erase_split (l : List Dg.It) (i : Nat) : [] ++ l.take i ++ l.drop (i + 1) = l.eraseIdx i := by
  rw [List.nil_append, List.eraseIdx_eq_take_drop_succ]
end Go.Proofs.YtpldhempbdionaaGreatDoor
/- CodeBeginnings. No conditions but those that each theorem states. -/
namespace Go.Proofs.YtpldhempbdionaaGreatDoor
open Go Go.RowKit Go.Sort Go.Maps
theorem textC_few {l : List Dg.It} (hv : Dg.validC l = true) (h : fewC l 30 = true) : Dg.textC l = (Dg.B (Dg.textL l), 0) := by
  obtain ⟨h1, h2⟩ := fewC_spec h
  have h3 := Dg.textL_len l (fun x hx => (smallI_iff x).1 (h2 x hx))
  have h4 : l.length * 6100 ≤ 30 * 6100 := Nat.mul_le_mul_right _ h1
  unfold Dg.textC
  rw [if_pos hv, if_neg (by omega)]
theorem few_take {l : List Dg.It} (h : fewC l 30 = true) (k : Nat) : fewC (l.take k) 30 = true := by
  obtain ⟨h1, h2⟩ := fewC_spec h
  exact fewC_yes (by rw [List.length_take]; omega) fun x hx => h2 x (List.mem_of_mem_take hx)
theorem same_refl (l : List ByteArray) : Dg.same l l = true := by
  unfold Dg.same
  simp
theorem Strs.keep3 {w w' : World} {A : Option Addr} {l : List ByteArray} (h : Strs w w.heap.size A l) (hb : Below w.heap.size w w') : Strs w' w'.heap.size A l := keepS h hb
theorem B_take (t : List UInt8) (k : Nat) : (Dg.B t).extract 0 k = Dg.B (t.take k) := by
  apply Dg.L_inj
  rw [Dg.L_extract, Dg.L_B, Dg.L_B, List.drop_zero]
set_option maxRecDepth 100000 in
set_option maxHeartbeats 16000000 in
theorem law_beginnings (l : List Dg.It) (A : Option Addr) (n c : Nat) (hl : l.length = n) (hw : ∀ x ∈ l, ItW x) (hn : n ≤ 9223372036854775807) (hnc : n ≤ c) (k0 : Nat) (hk0 : k0 ≤ 255) (w : World) (he : Env w) (hI : Its w w.heap.size A l) :
    Calls Tryz.prog 6 #[.agg #[.slice A n c], .int .u8 k0] w fun e w' => e = .returned (.bool true) ∧ Below w.heap.size w w' := by
  have hb1 := Below.news (Below.refl w.heap.size w) (.cells #[.slice A n c] 24)
  have hS1 : CS w.heap.size A n c l none [] (w.alloc (.cells #[.slice A n c] 24)) := ⟨heap_alloc_new w (.cells #[.slice A n c] 24), hI.keep hb1, he.next hb1, Strs.nil _ _ _⟩
  have HL := hide hl; have HW := hide hw
  clear hl hw hI he
  have hmx : Tryz.prog.follows .mixedOrders = true := by kernel_rfl
  go_enter Tryz.func6, Tryz.ntmps6
  go_wp2_with fail
  generalize w.alloc (.cells #[.slice A n c] 24) = w1 at *
  refine (head_any w1 hS1.env).mono ?_
  rintro e w2 ⟨rfl, hx2⟩
  have hS2 := hS1.below hx2
  have hb2 := bnext hb1 hx2
  clear hS1 hb1 hx2
  try clear hc1
  have hc1 := iCells0 hS2.row
  obtain ⟨F, hF⟩ : ∃ F, fewC l 30 = F := ⟨_, rfl⟩
  go_wp2_with fail
  refine (few1_of l A n c HL.out hn w2 _ rfl hS2.its F hF).mono ?_
  rintro e w3 ⟨rfl, hx3⟩
  have hS3 := hS2.below hx3
  have hb3 := bnext hb2 hx3
  clear hS2 hb2 hx3
  try clear hc1
  have hc1 := iCells0 hS3.row
  cases F with
  | false =>
    clear hF hc1
    go_wp2
    go_ret
    exact ⟨rfl, hb3⟩
  | true =>
    obtain ⟨n30, z30⟩ := few_sizes hF
    rw [HL.out] at n30
    have HF := hide hF; have ZL := hide z30
    clear hF z30
    obtain ⟨V, hV⟩ : ∃ V, Dg.validC l = V := ⟨_, rfl⟩
    go_wp2_with fail
    refine (Code.valid_of l A n c HL.out HW.out (by omega) w3 hS3.its V hV).mono ?_
    rintro e w4 ⟨rfl, hx4⟩
    have hS4 := hS3.below hx4
    have hb4 := bnext hb3 hx4
    clear hS3 hb3 hx4
    try clear hc1
    have hc1 := iCells0 hS4.row
    cases V with
    | false =>
      clear hV hc1
      go_wp2
      go_ret
      exact ⟨rfl, hb4⟩
    | true =>
      have HV := hide hV
      clear hV
      obtain ⟨k, hk⟩ : ∃ k, k0 % (n + 1) = k := ⟨_, rfl⟩
      have hkn : k ≤ n := by rw [← hk]; have := Nat.mod_lt k0 (show 0 < n + 1 by omega); omega
      have him : (k0 : Int).tmod ((n : Int) + 1) = (k : Int) := by rw [← hk]; rfl
      have hz : ((n : Int) + 1 == 0) = false := beq_eq_false_iff_ne.2 (by omega)
      have hwn : IntKind.i64.wrap ((n : Int) + 1) = (n : Int) + 1 := IntWalk.i64_in _ (by omega)
      have hi0 : (0 : Int) ≤ (k : Int) := by omega
      have hic : (k : Int) ≤ (c : Int) := by omega
      have HK := hide (show (l.take k).length = k by rw [List.length_take, HL.out]; omega)
      have hx2 := Below.news (Below.refl w4.heap.size w4) (.cells #[.slice A k c] 24)
      have hS90 : C2 w.heap.size w4.heap.size A n c l A k c (l.take k) (w4.alloc (.cells #[.slice A k c] 24)) := ⟨iNext hS4.row hx2, heap_alloc_new w4 (.cells #[.slice A k c] 24), hS4.its.keep hx2, (hS4.its.keep hx2).take k, hS4.env.next hx2⟩
      have hb90 := bnext hb4 hx2
      clear hx2 hS4 hb4
      go_wp2_with fail
      generalize w4.alloc (.cells #[.slice A k c] 24) = w90 at *
      generalize w4.heap.size = b2 at *
      clear hc1 hk him hz hwn hi0 hic
      have hT1 := textC_few (Dg.valid_take HV.out k (by rw [HL.out]; exact hkn)) (few_take HF.out k)
      have hT2 := textC_few HV.out HF.out
      obtain ⟨s1, hs1⟩ : ∃ s, Dg.B (Dg.textL (l.take k)) = s := ⟨_, rfl⟩
      obtain ⟨s2, hs2⟩ : ∃ s, Dg.B (Dg.textL l) = s := ⟨_, rfl⟩
      rw [hs1] at hT1
      rw [hs2] at hT2
      have hsz : s1.size ≤ s2.size := by rw [← hs1, ← hs2, Dg.size_B, Dg.size_B]; exact Dg.textL_take_le l k
      have hse : s2.extract 0 s1.size = s1 := by
        rw [← hs2, ← hs1, Dg.size_B, B_take, Dg.textL_take]
      have HT1 := hide hT1; have HT2 := hide hT2; have HSE := hide hse
      clear hT1 hT2 hs1 hs2 hse
      refine (Code.text_of (l.take k) A k c HK.out (fun x hx => HW.out x (List.mem_of_mem_take hx)) (by omega) w90 hS90.i2 (fun x hx => few_up ZL.out (by decide) x (List.mem_of_mem_take hx)) s1 0 HT1.out).mono ?_
      rintro e w91 ⟨rfl, hx91⟩
      have hS91 := hS90.below hx91
      have hb91 := bnext hb90 hx91
      clear hS90 hb90 hx91
      try clear hc1
      try clear hc2
      have hc1 := iCells0 hS91.r1
      have hc2 := iCells0 hS91.r2
      go_wp2_with fail
      refine (Code.text_of l A n c HL.out HW.out (by omega) w91 hS91.i1 (few_up ZL.out (by decide)) s2 0 HT2.out).mono ?_
      rintro e w92 ⟨rfl, hx92⟩
      have hS92 := hS91.below hx92
      have hb92 := bnext hb91 hx92
      clear hS91 hb91 hx92
      try clear hc1
      try clear hc2
      have hc1 := iCells0 hS92.r1
      have hc2 := iCells0 hS92.r2
      obtain ⟨L1, hL1⟩ : ∃ L, Dg.leavesC (l.take k) = L := ⟨_, rfl⟩
      obtain ⟨L2, hL2⟩ : ∃ L, Dg.leavesC l = L := ⟨_, rfl⟩
      have hLT : L2.take L1.length = L1 := by
        rw [← hL1, ← hL2]
        unfold Dg.leavesC
        rw [if_pos HV.out, if_pos (Dg.valid_take HV.out k (by rw [HL.out]; exact hkn))]
        exact Dg.leaves_take l k
      have hLn : L1.length ≤ L2.length := by
        have h9 := congrArg List.length hLT
        rw [List.length_take] at h9
        omega
      have HLT := hide hLT; have HL1 := hide hL1; have HL2 := hide hL2
      clear hLT hL1 hL2
      have hL2n : L2.length ≤ 30 := by
        have := Dg.leaves_len l
        rw [← HL2.out]
        unfold Dg.leavesC
        rw [if_pos HV.out, this]
        exact Nat.le_trans List.countP_le_length (by rw [HL.out]; exact n30)
      obtain ⟨m1, hm1⟩ : ∃ m, L1.length = m := ⟨_, rfl⟩
      obtain ⟨m2, hm2⟩ : ∃ m, L2.length = m := ⟨_, rfl⟩
      rw [hm1, hm2] at hLn
      rw [hm2] at hL2n
      have HM1 := hide hm1; have HM2 := hide hm2
      clear hm1 hm2
      go_upto_region 8 with (fail)
      try clear hc1
      try clear hc2
      refine wp_region_noPanic ?_
      refine wp_region_L (C2 w.heap.size b2 A n c l A k c (l.take k)) 9 hmx ?_
      have hdr := (Below.refl w92.heap.size w92).drew
      have hS93 : (C2 w.heap.size b2 A n c l A k c (l.take k)) w92.drew := hS92.below hdr
      have hb93 := bnext hb92 hdr
      clear hdr hS92 hb92
      generalize w92.drew = w93 at *
      refine wpAnyL_take (i := 0) (f0 := 8) (v := ?_) rfl (by decide +kernel) (by decide +kernel) (by decide +kernel) (by decide +kernel) (by decide +kernel) (fun _ _ _ h => h) (Or.inl ⟨by rfl, ?_⟩) hS93 ?_
      rotate_left
      · intro wS hS; have hc2 := iCells0 hS.r2; go_simp; (try with_reducible rfl)
      simp only [Act.put, List.getElem_toArray, List.getElem_cons_succ, List.getElem_cons_zero, List.setIfInBounds_toArray, List.set_cons_succ, List.set_cons_zero]
      refine wpAnyL_take (i := 2) (f0 := 8) (v := ?_) rfl (by decide +kernel) (by decide +kernel) (by decide +kernel) (by decide +kernel) (by decide +kernel) (fun _ _ _ h => h) (Or.inl ⟨by rfl, ?_⟩) hS93 ?_
      rotate_left
      · intro wS hS; have hc1 := iCells0 hS.r1; go_simp; (try with_reducible rfl)
      simp only [Act.put, List.getElem_toArray, List.getElem_cons_succ, List.getElem_cons_zero, List.setIfInBounds_toArray, List.set_cons_succ, List.set_cons_zero]
      refine wpAnyL_one (i := 1) (by decide +kernel) (by rfl) (fun K hK => ?_)
      rw [if_pos (by rfl)]
      go_simp
      refine (Code.leaves_of (l.take k) A k c HK.out (fun x hx => HW.out x (List.mem_of_mem_take hx)) (by omega) w93 hS93.env hS93.i2 (fun x hx => few_up ZL.out (by decide) x (List.mem_of_mem_take hx)) L1 HL1.out).mono ?_
      rintro e w94 ⟨⟨A1, c1, rfl, hc1, hst1⟩, hx94⟩
      have hS94 : (C2 w.heap.size b2 A n c l A k c (l.take k)) w94 := hS93.below hx94
      have hb94 := bnext hb93 hx94
      rw [HM1.out] at hc1 ⊢
      refine hK.out _ _ (Or.inr hS94) ?_
      clear hK K hS93 hb93 hx94
      try simp only [Act.put, List.getElem_toArray, List.getElem_cons_succ, List.getElem_cons_zero, List.setIfInBounds_toArray, List.set_cons_succ, List.set_cons_zero]
      refine wpAnyL_one (i := 3) (by decide +kernel) (by rfl) (fun K hK => ?_)
      rw [if_pos (by rfl)]
      go_simp
      refine (Code.leaves_of l A n c HL.out HW.out (by omega) w94 hS94.env hS94.i1 (few_up ZL.out (by decide)) L2 HL2.out).mono ?_
      rintro e w95 ⟨⟨A2, c2, rfl, hc2, hst2⟩, hx95⟩
      have hS95 : (C2 w.heap.size b2 A n c l A k c (l.take k)) w95 := hS94.below hx95
      have hb95 := bnext hb94 hx95
      rw [HM2.out] at hc2 ⊢
      have hst1 := hst1.keep2 hx95
      refine hK.out _ _ (Or.inr hS95) ?_
      clear hK K hS94 hb94 hx95
      try simp only [Act.put, List.getElem_toArray, List.getElem_cons_succ, List.getElem_cons_zero, List.setIfInBounds_toArray, List.set_cons_succ, List.set_cons_zero]
      refine wpAnyL_take (i := 4) (f0 := 8) (v := ?_) rfl (by decide +kernel) (by decide +kernel) (by decide +kernel) (by decide +kernel) (by decide +kernel) (fun _ _ _ h => h) (Or.inl ⟨by rfl, ?_⟩) hS95 ?_
      rotate_left
      · intro wS hS; go_simp; (try with_reducible rfl)
      simp only [Act.put, List.getElem_toArray, List.getElem_cons_succ, List.getElem_cons_zero, List.setIfInBounds_toArray, List.set_cons_succ, List.set_cons_zero]
      refine wpAnyL_take (i := 5) (f0 := 8) (v := ?_) rfl (by decide +kernel) (by decide +kernel) (by decide +kernel) (by decide +kernel) (by decide +kernel) (fun _ _ _ h => h) (Or.inl ⟨by rfl, ?_⟩) hS95 ?_
      rotate_left
      · intro wS hS; go_simp; (try with_reducible rfl)
      simp only [Act.put, List.getElem_toArray, List.getElem_cons_succ, List.getElem_cons_zero, List.setIfInBounds_toArray, List.set_cons_succ, List.set_cons_zero]
      refine wpAnyL_done (by decide +kernel) ?_ _
      refine NoPanic.normal ?_
      have hq1 := hc1; have hq2 := hc2
      clear hc1 hc2
      have hc1 := iCells0 hS95.r1
      have hc2 := iCells0 hS95.r2
      have hst2t := hst2.take m1
      have a1 : (m1 : Int) ≤ (m2 : Int) := by omega
      have a2 : (m1 : Int) ≤ (c2 : Int) := by omega
      have a3 : (s1.size : Int) ≤ (s2.size : Int) := by omega
      go_wp2_with fail
      refine (Code.valid_of (l.take k) A k c HK.out (fun x hx => HW.out x (List.mem_of_mem_take hx)) (by omega) w95 hS95.i2 true (Dg.valid_take HV.out k (by rw [HL.out]; exact hkn))).mono ?_
      rintro e wa ⟨rfl, hx⟩
      have hSa := hS95.below hx
      have hba := bnext hb95 hx
      have hst1 := hst1.keep2 hx
      have hst2t := hst2t.keep2 hx
      clear hS95 hb95 hx hst2 hc1 hc2
      have hse := HSE.out
      go_wp2_with fail
      refine (same_of A2 A1 c2 c1 (L2.take m1) L1 m1 m1 (by rw [List.length_take, HM2.out]; omega) HM1.out true (by rw [← HM1.out, HLT.out]; exact same_refl _) wa (by omega) (by omega) hst2t hst1).mono ?_
      rintro e wb ⟨rfl, hx⟩
      have hbb := bnext hba hx
      clear hSa hx hst1 hst2t hba
      go_wp2
      go_ret
      exact ⟨rfl, hbb⟩
end Go.Proofs.YtpldhempbdionaaGreatDoor
/- CodeLeaves. No conditions but those that each theorem states. -/
namespace Go.Proofs.YtpldhempbdionaaGreatDoor
open Go Go.RowKit Go.Sort Go.Maps
theorem bare_w {l : List Dg.It} {i : Nat} (h : ∀ x ∈ l, ItW x) (hi : i < l.length) : ∀ x ∈ l.set i (Dg.bareI l[i]), ItW x := fun x hx => by
  rcases List.mem_or_eq_of_mem_set hx with hx | rfl
  · exact h x hx
  · have := h l[i] (List.getElem_mem hi)
    exact ⟨this.k0, this.k1, this.iz, this.pz, (by show (0 : Nat) ≤ _; omega), this.oz, this.sz⟩
theorem bare_z {l : List Dg.It} {i z : Nat} (h : ∀ x ∈ l, ∀ s ∈ Dg.fieldsI x, s.size ≤ z) (hi : i < l.length) : ∀ x ∈ l.set i (Dg.bareI l[i]), ∀ s ∈ Dg.fieldsI x, s.size ≤ z := fun x hx s hs => by
  rcases List.mem_or_eq_of_mem_set hx with hx | rfl
  · exact h x hx s hs
  · have h9 := h l[i] (List.getElem_mem hi)
    unfold Dg.fieldsI at hs h9
    simp only [List.mem_cons, List.not_mem_nil, or_false] at hs h9
    rcases hs with rfl | rfl | rfl | rfl | rfl | rfl
    · exact h9 _ (Or.inl rfl)
    · exact h9 _ (Or.inr (Or.inl rfl))
    · exact h9 _ (Or.inr (Or.inr (Or.inl rfl)))
    · exact Nat.zero_le _
    · exact h9 _ (Or.inr (Or.inr (Or.inr (Or.inr (Or.inl rfl)))))
    · exact h9 _ (Or.inr (Or.inr (Or.inr (Or.inr (Or.inr rfl)))))
theorem leavesC_len (l : List Dg.It) (h : l.length ≤ 1048576) : (Dg.leavesC l).length ≤ 9223372036854775807 := by
  unfold Dg.leavesC
  split
  · rw [Dg.leaves_len]
    exact Nat.le_trans List.countP_le_length (by omega)
  · simp
set_option maxRecDepth 100000 in
set_option maxHeartbeats 16000000 in
theorem law_leaves (l : List Dg.It) (A : Option Addr) (n c : Nat) (hl : l.length = n) (hw : ∀ x ∈ l, ItW x) (hn : n ≤ 9223372036854775807) (hnc : n ≤ c) (k0 : Nat) (hk0 : k0 ≤ 255) (w : World) (he : Env w) (hI : Its w w.heap.size A l) :
    Calls Tryz.prog 5 #[.agg #[.slice A n c], .int .u8 k0] w fun e w' => e = .returned (.bool true) ∧ Below w.heap.size w w' := by
  have hb1 := Below.news (Below.refl w.heap.size w) (.cells #[.slice A n c] 24)
  have hS1 : CS w.heap.size A n c l none [] (w.alloc (.cells #[.slice A n c] 24)) := ⟨heap_alloc_new w (.cells #[.slice A n c] 24), hI.keep hb1, he.next hb1, Strs.nil _ _ _⟩
  have HL := hide hl; have HW := hide hw
  clear hl hw hI he
  have hmx : Tryz.prog.follows .mixedOrders = true := by kernel_rfl
  go_enter Tryz.func5, Tryz.ntmps5
  go_wp2_with fail
  generalize w.alloc (.cells #[.slice A n c] 24) = w1 at *
  refine (head_any w1 hS1.env).mono ?_
  rintro e w2 ⟨rfl, hx2⟩
  have hS2 := hS1.below hx2
  have hb2 := bnext hb1 hx2
  clear hS1 hb1 hx2
  try clear hc1
  have hc1 := iCells0 hS2.row
  obtain ⟨F, hF⟩ : ∃ F, fewC l 30 = F := ⟨_, rfl⟩
  go_wp2_with fail
  refine (few1_of l A n c HL.out hn w2 _ rfl hS2.its F hF).mono ?_
  rintro e w3 ⟨rfl, hx3⟩
  have hS3 := hS2.below hx3
  have hb3 := bnext hb2 hx3
  clear hS2 hb2 hx3
  try clear hc1
  have hc1 := iCells0 hS3.row
  cases F with
  | false =>
    clear hF hc1
    go_wp2
    go_ret
    exact ⟨rfl, hb3⟩
  | true =>
    obtain ⟨n30, z30⟩ := few_sizes hF
    rw [HL.out] at n30
    have ZL := hide z30
    clear hF z30
    obtain ⟨V, hV⟩ : ∃ V, Dg.validC l = V := ⟨_, rfl⟩
    go_wp2_with fail
    refine (Code.valid_of l A n c HL.out HW.out (by omega) w3 hS3.its V hV).mono ?_
    rintro e w4 ⟨rfl, hx4⟩
    have hS4 := hS3.below hx4
    have hb4 := bnext hb3 hx4
    clear hS3 hb3 hx4
    try clear hc1
    have hc1 := iCells0 hS4.row
    cases V with
    | false =>
      clear hV hc1
      go_wp2
      go_ret
      exact ⟨rfl, hb4⟩
    | true =>
      have HV := hide hV
      clear hV
      by_cases hn0 : n = 0
      · subst hn0
        go_wp2
        go_ret
        exact ⟨rfl, hb4⟩
      · have hi1 : ¬ (n : Int) = 0 := by omega
        obtain ⟨i, hi⟩ : ∃ i, k0 % n = i := ⟨_, rfl⟩
        have hin : i < n := by rw [← hi]; exact Nat.mod_lt _ (by omega)
        have him : (k0 : Int).tmod (n : Int) = (i : Int) := by rw [← hi]; rfl
        have hz : ((n : Int) == 0) = false := beq_eq_false_iff_ne.2 hi1
        have hil : i < l.length := by rw [HL.out]; exact hin
        obtain ⟨b, off, rfl⟩ := hS4.its.some hil
        obtain ⟨x, hx⟩ : ∃ x, l[i] = x := ⟨_, rfl⟩
        have HX := hide hx
        clear hx
        obtain ⟨L, hL⟩ : ∃ L, Dg.leavesC l = L := ⟨_, rfl⟩
        obtain ⟨m, hm⟩ : ∃ m, L.length = m := ⟨_, rfl⟩
        have HL7 := hide hL; have HM := hide hm
        clear hL hm
        go_wp2_with fail
        refine (Code.leaves_of l (some ⟨b, off, none⟩) n c HL.out HW.out (by omega) w4 hS4.env hS4.its (few_up ZL.out (by decide)) L HL7.out).mono ?_
        rintro e w5 ⟨⟨A7, c7, rfl, hc7, hs7⟩, hx⟩
        rw [HM.out] at hc7 ⊢
        have hS5 : CS w.heap.size (some ⟨b, off, none⟩) n c l A7 L w5 := ⟨iNext hS4.row hx, hS4.its.keep hx, hS4.env.next hx, hs7⟩
        have hb5 := bnext hb4 hx
        clear hS4 hb4 hx hs7 hi him hi1 hz hn0 hk0 hc1
        have hi0 : (0 : Int) ≤ (i : Int) := by omega
        have hic : (i : Int) < (n : Int) := by omega
        go_upto_region 6 with (fail)
        have hn4 := Below.news (Below.refl w5.heap.size w5) (.cells #[] 31)
        have hO4 := OwnI.lit w5 w5.heap.size (Nat.le_refl _) [] 0 rfl (by decide) #[] rfl
        have hc1 := iCells0 (iNext hS5.row hn4)
        have HI4 := hide (hS5.its.keep hn4).src
        have HO4 := hide hO4
        have HN4 := hide hn4
        clear hO4 hn4
        go_upto_region 7 with (at_builtin; refine step_ai rfl (.tmp 38) (.tmp 40) rfl w5.heap.size _ [] l rfl HO4.out (some ⟨b, off, none⟩) n c rfl HL.out HI4.out (by rw [List.length_nil]; omega) HN4.out.size ?_; intro v5 u5 hO5 hB5 hg5; obtain ⟨g5, c5, e5, hg5a, hg5b, hc5, cs5, hr5⟩ := hO5.full (by rw [List.nil_append]; omega); subst e5; rw [List.nil_append, HL.out] at hO5; rw [List.nil_append, HL.out])
        rw [List.nil_append, HL.out] at hc5
        have hB6 := HN4.out.trans hB5
        clear hc1 HI4 HO4 HN4 hB5 hg5
        have hn8 := Below.news (Below.refl u5.heap.size u5) (.cells #[.slice (some ⟨g5, 0, none⟩) n c5] 24)
        have hrB := heap_alloc_new u5 (.cells #[.slice (some ⟨g5, 0, none⟩) n c5] 24)
        have hB8 := hB6.trans (hn8.mono hB6.size)
        have hO8 := OwnI.below hO5 hn8
        have hr8 := iNext hr5 hn8
        clear hO5 hr5 hn8 hB6
        generalize u5.alloc (.cells #[.slice (some ⟨g5, 0, none⟩) n c5] 24) = u8 at *
        have hne : u5.heap.size ≠ g5 := by omega
        generalize u5.heap.size = b8 at *
        have hI8 := hO8.it
        obtain ⟨_, x0, x1, x2, x3, x4, x5, x6⟩ := hI8.cells hil x HX.out
        have y3 : u8.cell? ⟨g5, i * 7 + 3, none⟩ = some (.string x.number) := by rw [← x3, Nat.zero_add]
        have fz := frozen_of_row u8 g5 (i * 7 + 3) cs5 31 hr8
        have hcB := iCells0 hrB
        clear x0 x1 x2 x3 x4 x5 x6 hI8
        go_upto_region 8 with (fail)
        have hO9 := hO8.bare HL.out i hil
        have hB9 := hB8.setCell (p := ⟨g5, i * 7 + 3, none⟩) hg5a (.string Dg.nil8)
        have hrB9 : (u8.setCell ⟨g5, i * 7 + 3, none⟩ (.string Dg.nil8)).heap[b8]? = some (.cells #[.slice (some ⟨g5, 0, none⟩) n c5] 24 (0, 0)) := (Below.heap_setCell _ _ _ _ hne).trans hrB
        have hIB := hO9.it
        have hS90 := hS5.below hB9
        have hb90 := bnext hb5 hB9
        clear hO8 hr8 hO9 hB9 hrB y3 fz hcB hB8 hS5 hb5
        unfold Dg.nil8 at hrB9 hIB hS90 hb90
        generalize u8.setCell ⟨g5, i * 7 + 3, none⟩ (.string ⟨#[]⟩) = w90 at *
        have hcB := iCells0 hrB9
        have hbv := Dg.valid_bare HV.out i hil
        have hLB : Dg.leavesC (l.set i (Dg.bareI l[i])) = L := by
          have h9 := HL7.out
          unfold Dg.leavesC at h9 ⊢
          rw [if_pos HV.out] at h9
          rw [if_pos hbv, Dg.leaves_bare l i hil]
          exact h9
        have hLBn : (l.set i (Dg.bareI l[i])).length = n := by rw [List.length_set, HL.out]
        have HLB := hide hLB; have HLBn := hide hLBn; have HBW := hide (bare_w HW.out hil); have HBZ := hide (bare_z ZL.out hil)
        clear hLB hLBn hbv
        go_wp2_with fail
        refine (Code.leaves_of (l.set i (Dg.bareI l[i])) (some ⟨g5, 0, none⟩) n c5 HLBn.out HBW.out (by omega) w90 hS90.env hIB (few_up HBZ.out (by decide)) L HLB.out).mono ?_
        rintro e w91 ⟨⟨A9, c9, rfl, _, hs9⟩, hx⟩
        rw [HM.out]
        have hS91 := hS90.below hx
        have hb91 := bnext hb90 hx
        clear hS90 hb90 hx hcB hIB hrB9
        go_wp2_with fail
        refine (same_of A9 A7 c9 c7 L L m m HM.out HM.out true (same_refl L) w91 (by rw [← HM.out, ← HL7.out]; exact leavesC_len l (by rw [HL.out]; omega)) (by rw [← HM.out, ← HL7.out]; exact leavesC_len l (by rw [HL.out]; omega)) hs9 hS91.lis).mono ?_
        rintro e w92 ⟨rfl, hx⟩
        have hS92 := hS91.below hx
        have hb92 := bnext hb91 hx
        clear hS91 hb91 hx hs9 HLB HLBn HBW HBZ
        have hc1 := iCells0 hS92.row
        obtain ⟨_, x0, x1, x2, x3, x4, x5, x6⟩ := hS92.its.cells hil x HX.out
        go_upto_region 11 with (fail)
        have hx2 := Below.news (Below.refl w92.heap.size w92) (.cells #[.int .i64 x.kind, .string x.id, .string x.parent, .string x.number, .string x.north, .string x.south, .bool x.gone] 31)
        have hrx := heap_alloc_new w92 (.cells #[.int .i64 x.kind, .string x.id, .string x.parent, .string x.number, .string x.north, .string x.south, .bool x.gone] 31)
        have hS93 := hS92.below hx2
        have hb93 := bnext hb92 hx2
        clear hS92 hb92 hx2 hc1 x0 x1 x2 x3 x4 x5 x6
        generalize w92.alloc (.cells #[.int .i64 x.kind, .string x.id, .string x.parent, .string x.number, .string x.north, .string x.south, .bool x.gone] 31) = w93 at *
        generalize w92.heap.size = bx at *
        have h1 : (i : Int) ≤ (c : Int) := by omega
        have h2 : (i : Int) + 1 ≤ (n : Int) := by omega
        have h4 : (0 : Int) ≤ (i : Int) + 1 := by omega
        have h3 : (n : Int) ≤ (c : Int) := by omega
        have hwi : IntKind.i64.wrap ((i : Int) + 1) = (i : Int) + 1 := IntWalk.i64_in _ (by omega)
        go_cut [10] from 58 to 70 (fun v wx => ∃ (g10 : Nat) (Ac : Option Addr) (cc : Nat), v = .pointer (some ⟨g10, 0, none⟩) ∧ wx.heap[g10]? = some (.cells #[.slice Ac (n - 1) cc] 24 (0, 0)) ∧ Its wx wx.heap.size Ac (l.eraseIdx i) ∧ Below w93.heap.size w93 wx)
        case first =>
          refine wp_region_noPanic ?_
          refine wp_region_L (CS w.heap.size (some ⟨b, off, none⟩) n c l A7 L) 14 hmx ?_
          have hz0 := (Below.refl w93.heap.size w93).drew
          have hS94 : (CS w.heap.size (some ⟨b, off, none⟩) n c l A7 L) w93.drew := hS93.below hz0
          generalize w93.drew = u0 at *
          refine wpAnyL_take (i := 1) (f0 := 17) (v := ?_) rfl (by decide +kernel) (by decide +kernel) (by decide +kernel) (by decide +kernel) (by decide +kernel) (fun _ _ _ h => h) (Or.inl ⟨by rfl, ?_⟩) hS94 ?_
          rotate_left
          · intro wS hS; go_simp; (try with_reducible rfl)
          simp only [Act.put, List.getElem_toArray, List.getElem_cons_succ, List.getElem_cons_zero, List.setIfInBounds_toArray, List.set_cons_succ, List.set_cons_zero]
          refine wpAnyL_take (i := 2) (f0 := 17) (v := ?_) rfl (by decide +kernel) (by decide +kernel) (by decide +kernel) (by decide +kernel) (by decide +kernel) (fun _ _ _ h => h) (Or.inl ⟨by rfl, ?_⟩) hS94 ?_
          rotate_left
          · intro wS hS; have c9 := iCells0 hS.row; go_simp; (try with_reducible rfl)
          simp only [Act.put, List.getElem_toArray, List.getElem_cons_succ, List.getElem_cons_zero, List.setIfInBounds_toArray, List.set_cons_succ, List.set_cons_zero]
          refine wpAnyL_take (i := 3) (f0 := 17) (v := ?_) rfl (by decide +kernel) (by decide +kernel) (by decide +kernel) (by decide +kernel) (by decide +kernel) (fun _ _ _ h => h) (Or.inl ⟨by rfl, ?_⟩) hS94 ?_
          rotate_left
          · intro wS hS; go_simp; (try with_reducible rfl)
          simp only [Act.put, List.getElem_toArray, List.getElem_cons_succ, List.getElem_cons_zero, List.setIfInBounds_toArray, List.set_cons_succ, List.set_cons_zero]
          refine wpAnyL_take (i := 4) (f0 := 17) (v := ?_) rfl (by decide +kernel) (by decide +kernel) (by decide +kernel) (by decide +kernel) (by decide +kernel) (fun _ _ _ h => h) (Or.inl ⟨by rfl, ?_⟩) hS94 ?_
          rotate_left
          · intro wS hS; go_simp; (try with_reducible rfl)
          simp only [Act.put, List.getElem_toArray, List.getElem_cons_succ, List.getElem_cons_zero, List.setIfInBounds_toArray, List.set_cons_succ, List.set_cons_zero]
          refine wpAnyL_take (i := 6) (f0 := 17) (v := ?_) rfl (by decide +kernel) (by decide +kernel) (by decide +kernel) (by decide +kernel) (by decide +kernel) (fun _ _ _ h => h) (Or.inl ⟨by rfl, ?_⟩) hS94 ?_
          rotate_left
          · intro wS hS; go_simp; (try with_reducible rfl)
          simp only [Act.put, List.getElem_toArray, List.getElem_cons_succ, List.getElem_cons_zero, List.setIfInBounds_toArray, List.set_cons_succ, List.set_cons_zero]
          refine wpAnyL_take (i := 7) (f0 := 17) (v := ?_) rfl (by decide +kernel) (by decide +kernel) (by decide +kernel) (by decide +kernel) (by decide +kernel) (fun _ _ _ h => h) (Or.inl ⟨by rfl, ?_⟩) hS94 ?_
          rotate_left
          · intro wS hS; have c9 := iCells0 hS.row; go_simp; (try with_reducible rfl)
          simp only [Act.put, List.getElem_toArray, List.getElem_cons_succ, List.getElem_cons_zero, List.setIfInBounds_toArray, List.set_cons_succ, List.set_cons_zero]
          refine wpAnyL_take (i := 8) (f0 := 17) (v := ?_) rfl (by decide +kernel) (by decide +kernel) (by decide +kernel) (by decide +kernel) (by decide +kernel) (fun _ _ _ h => h) (Or.inl ⟨by rfl, ?_⟩) hS94 ?_
          rotate_left
          · intro wS hS; go_simp; (try with_reducible rfl)
          simp only [Act.put, List.getElem_toArray, List.getElem_cons_succ, List.getElem_cons_zero, List.setIfInBounds_toArray, List.set_cons_succ, List.set_cons_zero]
          refine wpAnyL_take (i := 9) (f0 := 17) (v := ?_) rfl (by decide +kernel) (by decide +kernel) (by decide +kernel) (by decide +kernel) (by decide +kernel) (fun _ _ _ h => h) (Or.inl ⟨by rfl, ?_⟩) hS94 ?_
          rotate_left
          · intro wS hS; go_simp; (try with_reducible rfl)
          simp only [Act.put, List.getElem_toArray, List.getElem_cons_succ, List.getElem_cons_zero, List.setIfInBounds_toArray, List.set_cons_succ, List.set_cons_zero]
          refine wpAnyL_take (i := 10) (f0 := 17) (v := ?_) rfl (by decide +kernel) (by decide +kernel) (by decide +kernel) (by decide +kernel) (by decide +kernel) (fun _ _ _ h => h) (Or.inl ⟨by rfl, ?_⟩) hS94 ?_
          rotate_left
          · intro wS hS; go_simp; (try with_reducible rfl)
          simp only [Act.put, List.getElem_toArray, List.getElem_cons_succ, List.getElem_cons_zero, List.setIfInBounds_toArray, List.set_cons_succ, List.set_cons_zero]
          refine wpAnyL_duo (i := 0) (j := 13) (by decide +kernel) (by rfl) (by rfl) (fun K hK => ?_) (fun K hK => ?_)
          · rw [if_pos (by rfl)]
            go_simp
            have hx1 := Below.news (Below.refl u0.heap.size u0) (.cells #[] 31)
            have hz1 := hz0.trans (hx1.mono hz0.size)
            have hO1 := OwnI.lit u0 w93.heap.size hz0.size [] 0 rfl (by decide) #[] rfl
            have hH1 : (CS w.heap.size (some ⟨b, off, none⟩) n c l A7 L) (u0.alloc (.cells #[] 31)) := hS93.below hz1
            refine hK.out _ _ (Or.inr hH1) ?_
            clear hK K
            try simp only [Act.put, List.getElem_toArray, List.getElem_cons_succ, List.getElem_cons_zero, List.setIfInBounds_toArray, List.set_cons_succ, List.set_cons_zero]
            generalize u0.alloc (.cells #[] 31) = u1 at *
            generalize u0.heap.size = g1 at *
            refine wpAnyL_duo (i := 5) (j := 13) (by decide +kernel) (by rfl) (by rfl) (fun K hK => ?_) (fun K hK => ?_)
            · rw [if_pos (by rfl)]
              refine wp_ai (.tmp 58) (.tmp 62) rfl w93.heap.size (.slice (some ⟨g1, 0, none⟩) 0 0) [] (l.take i) rfl hO1 (some ⟨b, off, none⟩) i c rfl (by rw [List.length_take, HL.out]; omega) (hH1.its.take i).src (by rw [List.length_nil]; omega) hz1.size ?_
              intro v2 u2 hO2 hx2 hg2
              have hz2 := hz1.trans hx2
              have hH2 : (CS w.heap.size (some ⟨b, off, none⟩) n c l A7 L) u2 := hS93.below hz2
              refine hK.out _ _ (Or.inr hH2) ?_
              clear hK K
              try simp only [Act.put, List.getElem_toArray, List.getElem_cons_succ, List.getElem_cons_zero, List.setIfInBounds_toArray, List.set_cons_succ, List.set_cons_zero]
              refine wpAnyL_duo (i := 11) (j := 13) (by decide +kernel) (by rfl) (by rfl) (fun K hK => ?_) (fun K hK => ?_)
              · rw [if_pos (by rfl)]
                have hsd := src_drop hH2.its c (i + 1) (by rw [HL.out]; exact hnc)
                generalize (if c = i + 1 then some (⟨b, off, none⟩ : Addr) else some ⟨b, off + (i + 1) * 7, none⟩) = AD at hsd ⊢
                refine wp_ai (.tmp 63) (.tmp 68) rfl w93.heap.size v2 ([] ++ l.take i) (l.drop (i + 1)) rfl hO2 AD (n - (i + 1)) (c - (i + 1)) rfl (by rw [List.length_drop, HL.out]) hsd (by rw [List.nil_append, List.length_take]; omega) hz2.size ?_
                intro v3 u3 hO3 hx3 hg3
                have hz3 := hz2.trans hx3
                obtain ⟨Ac, cc, ec, hcc, _⟩ := hO3.its
                rw [erase_split, List.length_eraseIdx_of_lt hil, HL.out] at ec
                subst ec
                have hH3 : (CS w.heap.size (some ⟨b, off, none⟩) n c l A7 L) u3 := hS93.below hz3
                refine hK.out _ _ (Or.inr hH3) ?_
                clear hK K
                try simp only [Act.put, List.getElem_toArray, List.getElem_cons_succ, List.getElem_cons_zero, List.setIfInBounds_toArray, List.set_cons_succ, List.set_cons_zero]
                refine wpAnyL_take (i := 12) (f0 := 17) (v := ?_) rfl (by decide +kernel) (by decide +kernel) (by decide +kernel) (by decide +kernel) (by decide +kernel) (fun _ _ _ h => h) (Or.inl ⟨by rfl, ?_⟩) hH3 ?_
                rotate_left
                · intro wS hS; go_simp; (try with_reducible rfl)
                simp only [Act.put, List.getElem_toArray, List.getElem_cons_succ, List.getElem_cons_zero, List.setIfInBounds_toArray, List.set_cons_succ, List.set_cons_zero]
                refine wpAnyL_one (i := 13) (by decide +kernel) (by rfl) (fun K hK => ?_)
                rw [if_pos (by rfl)]
                go_simp
                have hx4 := Below.news (Below.refl u3.heap.size u3) (.cells #[.slice none 0 0] 24)
                have hz4 := hz3.trans (hx4.mono hz3.size)
                have hr4 := heap_alloc_new u3 (.cells #[.slice none 0 0] 24)
                have hO4 := OwnI.below hO3 hx4
                have hH4 : (CS w.heap.size (some ⟨b, off, none⟩) n c l A7 L) (u3.alloc (.cells #[.slice none 0 0] 24)) := hS93.below hz4
                refine hK.out _ _ (Or.inr hH4) ?_
                clear hK K
                try simp only [Act.put, List.getElem_toArray, List.getElem_cons_succ, List.getElem_cons_zero, List.setIfInBounds_toArray, List.set_cons_succ, List.set_cons_zero]
                generalize u3.alloc (.cells #[.slice none 0 0] 24) = u4 at *
                have hgz4 : w93.heap.size ≤ u3.heap.size := hz3.size
                generalize u3.heap.size = g4 at *
                refine wpAnyL_one (i := 14) (by decide +kernel) (by rfl) (fun K hK => ?_)
                rw [if_pos (by rfl)]
                have hOf := hO4.far hr4 (.slice Ac (n - 1) cc)
                rw [erase_split] at hOf
                have c9 := iCells0 hr4
                have fz9 := frozen_of_row _ _ 0 _ _ hr4
                go_simp
                have hzf := hz4.setCell (p := ⟨g4, 0, none⟩) hgz4 (.slice Ac (n - 1) cc)
                have hrf := setCell_row1 hr4 (.slice Ac (n - 1) cc)
                have hIf := hOf.it'
                refine hK.out _ _ (Or.inl (by decide +kernel)) ?_
                clear hK K
                try simp only [Act.put, List.getElem_toArray, List.getElem_cons_succ, List.getElem_cons_zero, List.setIfInBounds_toArray, List.set_cons_succ, List.set_cons_zero]
                refine wpAnyL_done (by decide +kernel) ?_ _
                refine NoPanic.normal ?_
                go_wp2_with fail
                go_meet
                exact ⟨_, Ac, cc, rfl, hrf, hIf, hzf⟩
              · rw [if_pos (by rfl)]
                go_simp
                have hx6 := Below.news (Below.refl u2.heap.size u2) (.cells #[.slice none 0 0] 24)
                have hz6 := hz2.trans (hx6.mono hz2.size)
                have hr6 := heap_alloc_new u2 (.cells #[.slice none 0 0] 24)
                have hO6 := OwnI.below hO2 hx6
                have hH6 : (CS w.heap.size (some ⟨b, off, none⟩) n c l A7 L) (u2.alloc (.cells #[.slice none 0 0] 24)) := hS93.below hz6
                refine hK.out _ _ (Or.inr hH6) ?_
                clear hK K
                try simp only [Act.put, List.getElem_toArray, List.getElem_cons_succ, List.getElem_cons_zero, List.setIfInBounds_toArray, List.set_cons_succ, List.set_cons_zero]
                generalize u2.alloc (.cells #[.slice none 0 0] 24) = u6 at *
                have hgz6 : w93.heap.size ≤ u2.heap.size := hz2.size
                generalize u2.heap.size = g6 at *
                refine wpAnyL_one (i := 11) (by decide +kernel) (by rfl) (fun K hK => ?_)
                rw [if_pos (by rfl)]
                have hsd := src_drop hH6.its c (i + 1) (by rw [HL.out]; exact hnc)
                generalize (if c = i + 1 then some (⟨b, off, none⟩ : Addr) else some ⟨b, off + (i + 1) * 7, none⟩) = AD at hsd ⊢
                refine wp_ai (.tmp 63) (.tmp 68) rfl w93.heap.size v2 ([] ++ l.take i) (l.drop (i + 1)) rfl hO6 AD (n - (i + 1)) (c - (i + 1)) rfl (by rw [List.length_drop, HL.out]) hsd (by rw [List.nil_append, List.length_take]; omega) hz6.size ?_
                intro v7 u7 hO7 hx7 hg7
                have hz7 := hz6.trans hx7
                obtain ⟨Ac, cc, ec, hcc, _⟩ := hO7.its
                rw [erase_split, List.length_eraseIdx_of_lt hil, HL.out] at ec
                subst ec
                have hr7 := grown_row hg7 hr6 (own_ne hO6 hr6)
                have hH7 : (CS w.heap.size (some ⟨b, off, none⟩) n c l A7 L) u7 := hS93.below hz7
                refine hK.out _ _ (Or.inr hH7) ?_
                clear hK K
                try simp only [Act.put, List.getElem_toArray, List.getElem_cons_succ, List.getElem_cons_zero, List.setIfInBounds_toArray, List.set_cons_succ, List.set_cons_zero]
                refine wpAnyL_take (i := 12) (f0 := 17) (v := ?_) rfl (by decide +kernel) (by decide +kernel) (by decide +kernel) (by decide +kernel) (by decide +kernel) (fun _ _ _ h => h) (Or.inl ⟨by rfl, ?_⟩) hH7 ?_
                rotate_left
                · intro wS hS; go_simp; (try with_reducible rfl)
                simp only [Act.put, List.getElem_toArray, List.getElem_cons_succ, List.getElem_cons_zero, List.setIfInBounds_toArray, List.set_cons_succ, List.set_cons_zero]
                refine wpAnyL_one (i := 14) (by decide +kernel) (by rfl) (fun K hK => ?_)
                rw [if_pos (by rfl)]
                have hOf := hO7.far hr7 (.slice Ac (n - 1) cc)
                rw [erase_split] at hOf
                have c9 := iCells0 hr7
                have fz9 := frozen_of_row _ _ 0 _ _ hr7
                go_simp
                have hzf := hz7.setCell (p := ⟨g6, 0, none⟩) hgz6 (.slice Ac (n - 1) cc)
                have hrf := setCell_row1 hr7 (.slice Ac (n - 1) cc)
                have hIf := hOf.it'
                refine hK.out _ _ (Or.inl (by decide +kernel)) ?_
                clear hK K
                try simp only [Act.put, List.getElem_toArray, List.getElem_cons_succ, List.getElem_cons_zero, List.setIfInBounds_toArray, List.set_cons_succ, List.set_cons_zero]
                refine wpAnyL_done (by decide +kernel) ?_ _
                refine NoPanic.normal ?_
                go_wp2_with fail
                go_meet
                exact ⟨_, Ac, cc, rfl, hrf, hIf, hzf⟩
            · rw [if_pos (by rfl)]
              go_simp
              have hx9 := Below.news (Below.refl u1.heap.size u1) (.cells #[.slice none 0 0] 24)
              have hz9 := hz1.trans (hx9.mono hz1.size)
              have hr9 := heap_alloc_new u1 (.cells #[.slice none 0 0] 24)
              have hO9 := OwnI.below hO1 hx9
              have hH9 : (CS w.heap.size (some ⟨b, off, none⟩) n c l A7 L) (u1.alloc (.cells #[.slice none 0 0] 24)) := hS93.below hz9
              refine hK.out _ _ (Or.inr hH9) ?_
              clear hK K
              try simp only [Act.put, List.getElem_toArray, List.getElem_cons_succ, List.getElem_cons_zero, List.setIfInBounds_toArray, List.set_cons_succ, List.set_cons_zero]
              generalize u1.alloc (.cells #[.slice none 0 0] 24) = u9 at *
              have hgz9 : w93.heap.size ≤ u1.heap.size := hz1.size
              generalize u1.heap.size = g9 at *
              refine wpAnyL_one (i := 5) (by decide +kernel) (by rfl) (fun K hK => ?_)
              rw [if_pos (by rfl)]
              refine wp_ai (.tmp 58) (.tmp 62) rfl w93.heap.size (.slice (some ⟨g1, 0, none⟩) 0 0) [] (l.take i) rfl hO9 (some ⟨b, off, none⟩) i c rfl (by rw [List.length_take, HL.out]; omega) (hH9.its.take i).src (by rw [List.length_nil]; omega) hz9.size ?_
              intro v10 u10 hO10 hx10 hg10
              have hz10 := hz9.trans hx10
              have hr10 := grown_row hg10 hr9 (own_ne hO9 hr9)
              have hH10 : (CS w.heap.size (some ⟨b, off, none⟩) n c l A7 L) u10 := hS93.below hz10
              refine hK.out _ _ (Or.inr hH10) ?_
              clear hK K
              try simp only [Act.put, List.getElem_toArray, List.getElem_cons_succ, List.getElem_cons_zero, List.setIfInBounds_toArray, List.set_cons_succ, List.set_cons_zero]
              refine wpAnyL_one (i := 11) (by decide +kernel) (by rfl) (fun K hK => ?_)
              rw [if_pos (by rfl)]
              have hsd := src_drop hH10.its c (i + 1) (by rw [HL.out]; exact hnc)
              generalize (if c = i + 1 then some (⟨b, off, none⟩ : Addr) else some ⟨b, off + (i + 1) * 7, none⟩) = AD at hsd ⊢
              refine wp_ai (.tmp 63) (.tmp 68) rfl w93.heap.size v10 ([] ++ l.take i) (l.drop (i + 1)) rfl hO10 AD (n - (i + 1)) (c - (i + 1)) rfl (by rw [List.length_drop, HL.out]) hsd (by rw [List.nil_append, List.length_take]; omega) hz10.size ?_
              intro v11 u11 hO11 hx11 hg11
              have hz11 := hz10.trans hx11
              obtain ⟨Ac, cc, ec, hcc, _⟩ := hO11.its
              rw [erase_split, List.length_eraseIdx_of_lt hil, HL.out] at ec
              subst ec
              have hr11 := grown_row hg11 hr10 (own_ne hO10 hr10)
              have hH11 : (CS w.heap.size (some ⟨b, off, none⟩) n c l A7 L) u11 := hS93.below hz11
              refine hK.out _ _ (Or.inr hH11) ?_
              clear hK K
              try simp only [Act.put, List.getElem_toArray, List.getElem_cons_succ, List.getElem_cons_zero, List.setIfInBounds_toArray, List.set_cons_succ, List.set_cons_zero]
              refine wpAnyL_take (i := 12) (f0 := 17) (v := ?_) rfl (by decide +kernel) (by decide +kernel) (by decide +kernel) (by decide +kernel) (by decide +kernel) (fun _ _ _ h => h) (Or.inl ⟨by rfl, ?_⟩) hH11 ?_
              rotate_left
              · intro wS hS; go_simp; (try with_reducible rfl)
              simp only [Act.put, List.getElem_toArray, List.getElem_cons_succ, List.getElem_cons_zero, List.setIfInBounds_toArray, List.set_cons_succ, List.set_cons_zero]
              refine wpAnyL_one (i := 14) (by decide +kernel) (by rfl) (fun K hK => ?_)
              rw [if_pos (by rfl)]
              have hOf := hO11.far hr11 (.slice Ac (n - 1) cc)
              rw [erase_split] at hOf
              have c9 := iCells0 hr11
              have fz9 := frozen_of_row _ _ 0 _ _ hr11
              go_simp
              have hzf := hz11.setCell (p := ⟨g9, 0, none⟩) hgz9 (.slice Ac (n - 1) cc)
              have hrf := setCell_row1 hr11 (.slice Ac (n - 1) cc)
              have hIf := hOf.it'
              refine hK.out _ _ (Or.inl (by decide +kernel)) ?_
              clear hK K
              try simp only [Act.put, List.getElem_toArray, List.getElem_cons_succ, List.getElem_cons_zero, List.setIfInBounds_toArray, List.set_cons_succ, List.set_cons_zero]
              refine wpAnyL_done (by decide +kernel) ?_ _
              refine NoPanic.normal ?_
              go_wp2_with fail
              go_meet
              exact ⟨_, Ac, cc, rfl, hrf, hIf, hzf⟩
          · rw [if_pos (by rfl)]
            go_simp
            have hx13 := Below.news (Below.refl u0.heap.size u0) (.cells #[.slice none 0 0] 24)
            have hz13 := hz0.trans (hx13.mono hz0.size)
            have hr13 := heap_alloc_new u0 (.cells #[.slice none 0 0] 24)
            have hH13 : (CS w.heap.size (some ⟨b, off, none⟩) n c l A7 L) (u0.alloc (.cells #[.slice none 0 0] 24)) := hS93.below hz13
            refine hK.out _ _ (Or.inr hH13) ?_
            clear hK K
            try simp only [Act.put, List.getElem_toArray, List.getElem_cons_succ, List.getElem_cons_zero, List.setIfInBounds_toArray, List.set_cons_succ, List.set_cons_zero]
            generalize u0.alloc (.cells #[.slice none 0 0] 24) = u13 at *
            have hgz13 : w93.heap.size ≤ u0.heap.size := hz0.size
            generalize u0.heap.size = g13 at *
            refine wpAnyL_one (i := 0) (by decide +kernel) (by rfl) (fun K hK => ?_)
            rw [if_pos (by rfl)]
            go_simp
            have hx14 := Below.news (Below.refl u13.heap.size u13) (.cells #[] 31)
            have hz14 := hz13.trans (hx14.mono hz13.size)
            have hO14 := OwnI.lit u13 w93.heap.size hz13.size [] 0 rfl (by decide) #[] rfl
            have hr14 := iNext hr13 hx14
            have hH14 : (CS w.heap.size (some ⟨b, off, none⟩) n c l A7 L) (u13.alloc (.cells #[] 31)) := hS93.below hz14
            refine hK.out _ _ (Or.inr hH14) ?_
            clear hK K
            try simp only [Act.put, List.getElem_toArray, List.getElem_cons_succ, List.getElem_cons_zero, List.setIfInBounds_toArray, List.set_cons_succ, List.set_cons_zero]
            generalize u13.alloc (.cells #[] 31) = u14 at *
            generalize u13.heap.size = g14 at *
            refine wpAnyL_one (i := 5) (by decide +kernel) (by rfl) (fun K hK => ?_)
            rw [if_pos (by rfl)]
            refine wp_ai (.tmp 58) (.tmp 62) rfl w93.heap.size (.slice (some ⟨g14, 0, none⟩) 0 0) [] (l.take i) rfl hO14 (some ⟨b, off, none⟩) i c rfl (by rw [List.length_take, HL.out]; omega) (hH14.its.take i).src (by rw [List.length_nil]; omega) hz14.size ?_
            intro v15 u15 hO15 hx15 hg15
            have hz15 := hz14.trans hx15
            have hr15 := grown_row hg15 hr14 (own_ne hO14 hr14)
            have hH15 : (CS w.heap.size (some ⟨b, off, none⟩) n c l A7 L) u15 := hS93.below hz15
            refine hK.out _ _ (Or.inr hH15) ?_
            clear hK K
            try simp only [Act.put, List.getElem_toArray, List.getElem_cons_succ, List.getElem_cons_zero, List.setIfInBounds_toArray, List.set_cons_succ, List.set_cons_zero]
            refine wpAnyL_one (i := 11) (by decide +kernel) (by rfl) (fun K hK => ?_)
            rw [if_pos (by rfl)]
            have hsd := src_drop hH15.its c (i + 1) (by rw [HL.out]; exact hnc)
            generalize (if c = i + 1 then some (⟨b, off, none⟩ : Addr) else some ⟨b, off + (i + 1) * 7, none⟩) = AD at hsd ⊢
            refine wp_ai (.tmp 63) (.tmp 68) rfl w93.heap.size v15 ([] ++ l.take i) (l.drop (i + 1)) rfl hO15 AD (n - (i + 1)) (c - (i + 1)) rfl (by rw [List.length_drop, HL.out]) hsd (by rw [List.nil_append, List.length_take]; omega) hz15.size ?_
            intro v16 u16 hO16 hx16 hg16
            have hz16 := hz15.trans hx16
            obtain ⟨Ac, cc, ec, hcc, _⟩ := hO16.its
            rw [erase_split, List.length_eraseIdx_of_lt hil, HL.out] at ec
            subst ec
            have hr16 := grown_row hg16 hr15 (own_ne hO15 hr15)
            have hH16 : (CS w.heap.size (some ⟨b, off, none⟩) n c l A7 L) u16 := hS93.below hz16
            refine hK.out _ _ (Or.inr hH16) ?_
            clear hK K
            try simp only [Act.put, List.getElem_toArray, List.getElem_cons_succ, List.getElem_cons_zero, List.setIfInBounds_toArray, List.set_cons_succ, List.set_cons_zero]
            refine wpAnyL_take (i := 12) (f0 := 17) (v := ?_) rfl (by decide +kernel) (by decide +kernel) (by decide +kernel) (by decide +kernel) (by decide +kernel) (fun _ _ _ h => h) (Or.inl ⟨by rfl, ?_⟩) hH16 ?_
            rotate_left
            · intro wS hS; go_simp; (try with_reducible rfl)
            simp only [Act.put, List.getElem_toArray, List.getElem_cons_succ, List.getElem_cons_zero, List.setIfInBounds_toArray, List.set_cons_succ, List.set_cons_zero]
            refine wpAnyL_one (i := 14) (by decide +kernel) (by rfl) (fun K hK => ?_)
            rw [if_pos (by rfl)]
            have hOf := hO16.far hr16 (.slice Ac (n - 1) cc)
            rw [erase_split] at hOf
            have c9 := iCells0 hr16
            have fz9 := frozen_of_row _ _ 0 _ _ hr16
            go_simp
            have hzf := hz16.setCell (p := ⟨g13, 0, none⟩) hgz13 (.slice Ac (n - 1) cc)
            have hrf := setCell_row1 hr16 (.slice Ac (n - 1) cc)
            have hIf := hOf.it'
            refine hK.out _ _ (Or.inl (by decide +kernel)) ?_
            clear hK K
            try simp only [Act.put, List.getElem_toArray, List.getElem_cons_succ, List.getElem_cons_zero, List.setIfInBounds_toArray, List.set_cons_succ, List.set_cons_zero]
            refine wpAnyL_done (by decide +kernel) ?_ _
            refine NoPanic.normal ?_
            go_wp2_with fail
            go_meet
            exact ⟨_, Ac, cc, rfl, hrf, hIf, hzf⟩
        case rest =>
          obtain ⟨g10, Ac, cc, rfl, hr10, hIe, hx⟩ := hcut
          have hS98 := hS93.below hx
          have hrx98 := iNext hrx hx
          have hb98 := bnext hb93 hx
          clear hS93 hrx hb93 hx h1 h2 h3 h4 hwi
          have hcx := (iCells hrx98).2.2.2.2.2.2
          have hc10 := iCells0 hr10
          clear hrx98
          cases gx : x.gone with
          | true =>
            rw [gx] at hcx
            have hki : l[i].kind ≠ 1 := fun e => by
              rcases Dg.proper_kind (Dg.valid_proper HV.out l[i] (List.getElem_mem hil)) with h | h
              · rw [HX.out, gx] at h; exact absurd h.2.1 (by decide)
              · omega
            have hev := Dg.valid_erase HV.out i hil hki
            have hLE : Dg.leavesC (l.eraseIdx i) = L := by
              have h9 := HL7.out
              unfold Dg.leavesC at h9 ⊢
              rw [if_pos HV.out] at h9
              rw [if_pos hev, Dg.leaves_erase l i hil (by rw [HX.out]; exact gx)]
              exact h9
            have hLEn : (l.eraseIdx i).length = n - 1 := by rw [List.length_eraseIdx_of_lt hil, HL.out]
            have HLE := hide hLE; have HLEn := hide hLEn
            clear hLE hLEn hev hki gx
            go_wp2_with fail
            refine (Code.leaves_of (l.eraseIdx i) Ac (n - 1) cc HLEn.out (fun y hy => HW.out y (List.mem_of_mem_eraseIdx hy)) (by omega) _ hS98.env hIe (few_up (fun y hy => ZL.out y (List.mem_of_mem_eraseIdx hy)) (by decide)) L HLE.out).mono ?_
            rintro e w99 ⟨⟨A9, c9, rfl, _, hs9⟩, hx⟩
            rw [HM.out]
            have hS99 := hS98.below hx
            have hb99 := bnext hb98 hx
            clear hS98 hb98 hx hcx hc10 hr10 hIe
            go_wp2_with fail
            refine (same_of A9 A7 c9 c7 L L m m HM.out HM.out true (same_refl L) w99 (by rw [← HM.out, ← HL7.out]; exact leavesC_len l (by rw [HL.out]; omega)) (by rw [← HM.out, ← HL7.out]; exact leavesC_len l (by rw [HL.out]; omega)) hs9 hS99.lis).mono ?_
            rintro e w100 ⟨rfl, hx⟩
            have hS100 := hS99.below hx
            have hb100 := bnext hb99 hx
            clear hS99 hb99 hx hs9 HLE HLEn
            go_wp2
            have hc1 := iCells0 hS100.row
            go_loopw [11, 12] (fun nv kv wr => ∃ k : Nat, k ≤ n ∧ nv = .int .i64 ((((l.take k).countP fun x => !x.gone) : Nat) : Int) ∧ kv = .int .i64 (k : Int) ∧ (CS w.heap.size (some ⟨b, off, none⟩) n c l A7 L) wr ∧ Below w.heap.size w wr) (fun _ kv _ => n - (intOf kv).toNat)
            case atStart => exact ⟨0, by omega, by rw [List.take_zero]; rfl, rfl, hS100, hb100⟩
            case round =>
              clear hS100 hb100
              obtain ⟨k, hk, rfl, rfl, hS, hb⟩ := hrel
              have hc1 := iCells0 hS.row
              by_cases hlt : k < n
              · have hkl : k < l.length := by rw [HL.out]; exact hlt
                have hkn : (k : Int) < (n : Int) := by omega
                have hk0' : (0 : Int) ≤ (k : Int) := by omega
                obtain ⟨y, hy⟩ : ∃ y, l[k] = y := ⟨_, rfl⟩
                obtain ⟨_, y0, y1, y2, y3, y4, y5, y6⟩ := hS.its.cells hkl y hy
                clear y0 y1 y2 y3 y4 y5
                obtain ⟨q, hq⟩ : ∃ q, ((l.take k).countP fun x => !x.gone) = q := ⟨_, rfl⟩
                have hqk : q ≤ 30 := by rw [← hq]; exact Nat.le_trans List.countP_le_length (by rw [List.length_take]; omega)
                have hq1 : ((l.take (k + 1)).countP fun x => !x.gone) = q + (if y.gone = true then 0 else 1) := by
                  rw [List.take_succ_eq_append_getElem hkl, List.countP_append, hq, hy, List.countP_singleton]
                  cases y.gone <;> rfl
                rw [hq]
                have HQ := hide hq1
                clear hq hq1 hy
                cases gy : y.gone with
                | true =>
                  rw [gy] at y6 HQ
                  clear gy
                  go_wp2
                  go_roundw
                  case rel => exact ⟨k + 1, by omega, by rw [HQ.out]; rfl, by go_num, hS, hb⟩
                  case measure => simp [intOf]; omega
                | false =>
                  rw [gy] at y6 HQ
                  clear gy
                  go_wp2
                  go_roundw
                  case rel => exact ⟨k + 1, by omega, by rw [HQ.out]; go_num, by go_num, hS, hb⟩
                  case measure => simp [intOf]; omega
              · obtain rfl : n = k := by omega
                have hcm : ((l.take n).countP fun x => !x.gone) = m := by
                  rw [← HL.out, List.take_length, ← Dg.leaves_len, ← HM.out, ← HL7.out]
                  unfold Dg.leavesC
                  rw [if_pos HV.out]
                rw [hcm]
                clear hcm
                go_wp2
                go_ret
                exact ⟨rfl, hb⟩
          | false =>
            rw [gx] at hcx
            go_wp2
            clear hcx hc10 hr10 hIe gx
            go_loopw [11, 12] (fun nv kv wr => ∃ k : Nat, k ≤ n ∧ nv = .int .i64 ((((l.take k).countP fun x => !x.gone) : Nat) : Int) ∧ kv = .int .i64 (k : Int) ∧ (CS w.heap.size (some ⟨b, off, none⟩) n c l A7 L) wr ∧ Below w.heap.size w wr) (fun _ kv _ => n - (intOf kv).toNat)
            case atStart => exact ⟨0, by omega, by rw [List.take_zero]; rfl, rfl, hS98, hb98⟩
            case round =>
              clear hS98 hb98
              obtain ⟨k, hk, rfl, rfl, hS, hb⟩ := hrel
              have hc1 := iCells0 hS.row
              by_cases hlt : k < n
              · have hkl : k < l.length := by rw [HL.out]; exact hlt
                have hkn : (k : Int) < (n : Int) := by omega
                have hk0' : (0 : Int) ≤ (k : Int) := by omega
                obtain ⟨y, hy⟩ : ∃ y, l[k] = y := ⟨_, rfl⟩
                obtain ⟨_, y0, y1, y2, y3, y4, y5, y6⟩ := hS.its.cells hkl y hy
                clear y0 y1 y2 y3 y4 y5
                obtain ⟨q, hq⟩ : ∃ q, ((l.take k).countP fun x => !x.gone) = q := ⟨_, rfl⟩
                have hqk : q ≤ 30 := by rw [← hq]; exact Nat.le_trans List.countP_le_length (by rw [List.length_take]; omega)
                have hq1 : ((l.take (k + 1)).countP fun x => !x.gone) = q + (if y.gone = true then 0 else 1) := by
                  rw [List.take_succ_eq_append_getElem hkl, List.countP_append, hq, hy, List.countP_singleton]
                  cases y.gone <;> rfl
                rw [hq]
                have HQ := hide hq1
                clear hq hq1 hy
                cases gy : y.gone with
                | true =>
                  rw [gy] at y6 HQ
                  clear gy
                  go_wp2
                  go_roundw
                  case rel => exact ⟨k + 1, by omega, by rw [HQ.out]; rfl, by go_num, hS, hb⟩
                  case measure => simp [intOf]; omega
                | false =>
                  rw [gy] at y6 HQ
                  clear gy
                  go_wp2
                  go_roundw
                  case rel => exact ⟨k + 1, by omega, by rw [HQ.out]; go_num, by go_num, hS, hb⟩
                  case measure => simp [intOf]; omega
              · obtain rfl : n = k := by omega
                have hcm : ((l.take n).countP fun x => !x.gone) = m := by
                  rw [← HL.out, List.take_length, ← Dg.leaves_len, ← HM.out, ← HL7.out]
                  unfold Dg.leavesC
                  rw [if_pos HV.out]
                rw [hcm]
                clear hcm
                go_wp2
                go_ret
                exact ⟨rfl, hb⟩
end Go.Proofs.YtpldhempbdionaaGreatDoor

