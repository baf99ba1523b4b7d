/- Walks and laws of this seat, several texts in one. No conditions but those that each theorem states. -/
import Derived.Test.YtpldhempbdionaaGreatDoorEY2
import Derived.Test.YtpldhempbdionaaGreatDoorShelf
import Derived.Deep.QuietTactic
/- quote of package code. No conditions but those that each theorem states. -/
namespace Go.Proofs.YtpldhempbdionaaGreatDoor
open Go Go.RowKit Go.Sort Go.Maps
/-- A scanner in block sb, what is left of its text in block ib. -/
structure ScAt (sb ib : Nat) (line s : ByteArray) (X : World) : Prop where
  sc : X.heap[sb]? = some (.cells #[.pointer (some ⟨ib, 0, none⟩), .string line] 85 (0, 0))
  inp : InAt ib s X
theorem ScAt.below {sb ib : Nat} {line s : ByteArray} {X X' : World} (h : ScAt sb ib line s X) (hb : Below X.heap.size X X') : ScAt sb ib line s X' := ⟨iNext h.sc hb, h.inp.below hb⟩
theorem ScAt.next {sb ib : Nat} {line s t : ByteArray} {X X' : World} (h : ScAt sb ib line s X) (hne : sb ≠ ib) (ho : Off [ib] X X') (hi : InAt ib t X') : ScAt sb ib line t X' := ⟨ho.row h.sc (fun hm => hne (List.mem_singleton.1 hm)), hi⟩
theorem emp_yes {s : ByteArray} (h : Dg.L s = []) : s.toList.isEmpty = true := by rw [Lib.toList_data]; show (Dg.L s).isEmpty = true; rw [h]; rfl
theorem emp_no {s : ByteArray} (h : Dg.L s ≠ []) : s.toList.isEmpty = false := by
  rw [Lib.toList_data]
  show (Dg.L s).isEmpty = false
  cases hl : Dg.L s with
  | nil => exact absurd hl h
  | cons a r => rfl
theorem get_cut {line r : ByteArray} {q : List UInt8} {d : UInt8} (h : Dg.L line = (q ++ [d]) ++ Dg.L r) : ∃ K, line.size = K + 1 + r.size ∧ ∃ hk : K < line.size, line[K]'hk = d := by
  have h1 : line.size = q.length + 1 + r.size := by
    rw [← Dg.len_L, h, List.length_append, List.length_append, Dg.len_L]
    rfl
  have hk : q.length < line.size := by omega
  refine ⟨q.length, h1, hk, ?_⟩
  have h2 : (Dg.L line)[q.length]? = some (line[q.length]'hk) := Lib.data_getElem? line q.length hk
  rw [h, List.append_assoc, List.getElem?_append_right (Nat.le_refl _), Nat.sub_self] at h2
  simpa using h2.symm
theorem ext_one {s : ByteArray} {c : UInt8} {r : List UInt8} (h : Dg.L s = c :: r) : s.extract 0 1 = Dg.B [c] ∧ s.extract 1 s.size = Dg.B r := by
  constructor
  · apply Dg.L_inj
    rw [Dg.L_extract, h, Dg.L_B]
    rfl
  · apply Dg.L_inj
    rw [Dg.L_extract, show (Dg.L s).take s.size = Dg.L s from List.take_of_length_le (Nat.le_of_eq (Dg.len_L s)), h, Dg.L_B]
    rfl
set_option maxRecDepth 100000 in
set_option maxHeartbeats 16000000 in
theorem quote_any (sb ib : Nat) (hne : sb ≠ ib) (line s : ByteArray) (hz : line.size ≤ 1000000) (pre : List UInt8) (hpre : Dg.L line = pre ++ Dg.L s) (w : World) (h : ScAt sb ib line s w) (G1 G2 : List UInt8) (hG : Dg.quoteP (Dg.L s) = (G1, G2)) :
    Calls Tryz.prog 59 #[.pointer (some ⟨sb, 0, none⟩)] w fun e w' => e = .returned (.string (Dg.B G1)) ∧ ScAt sb ib line (Dg.B G2) w' ∧ Off [ib] w w' := by
  have hmx : Tryz.prog.follows .mixedOrders = true := by kernel_rfl
  have hsz : s.size ≤ 1000000 := by
    have := congrArg List.length hpre
    rw [List.length_append, Dg.len_L, Dg.len_L] at this
    omega
  obtain ⟨I1, I2, hI⟩ : ∃ I1 I2, Dg.insideP s.size (Dg.untilP [34] (Dg.L s)).2 = (I1, I2) := ⟨_, _, rfl⟩
  have hGI : G1 = I1 ∧ G2 = I2.tail := by
    unfold Dg.quoteP at hG
    rw [Dg.len_L, hI] at hG
    cases hG
    exact ⟨rfl, rfl⟩
  obtain ⟨rfl, rfl⟩ := hGI
  have HI := hide hI; have HP := hide hpre; have HZ := hide hz
  clear hG hI hpre hz
  obtain ⟨hc1, hc2⟩ := iCells2 h.sc
  go_enter Tryz.func59, Tryz.ntmps59
  go_wp2_with fail
  refine (until_any ib s hsz ⟨#[34]⟩ [34] rfl (by decide) (by decide) (by decide) w h.inp).mono ?_
  rintro e w1 ⟨rfl, hi1, ho1⟩
  have hS1 := h.next hne ho1 hi1
  clear hi1 hc1 hc2
  have hu := unt_size [34] s
  go_wp2
  go_loopg [3, 4, 5] s.size (fun g ov _ _ wx => ∃ (a r : ByteArray) (q : List UInt8), r.size ≤ g ∧ a.size + r.size ≤ 1000000 ∧ ov = .string a ∧ ScAt sb ib line r wx ∧ Off [ib] w wx ∧ Dg.L line = q ++ Dg.L r ∧ Dg.L a ++ (Dg.insideP g (Dg.L r)).1 = G1 ∧ (Dg.insideP g (Dg.L r)).2 = I2)
  case atStart =>
    obtain ⟨q, hq⟩ := Dg.until_tail [34] (Dg.L s)
    refine ⟨⟨#[]⟩, unt2 [34] s, pre ++ q, by omega, by show 0 + _ ≤ _; omega, rfl, hS1, ho1, ?_, ?_, ?_⟩
    · rw [HP.out, List.append_assoc, (unt_L [34] s).2, ← hq]
    · rw [(unt_L [34] s).2, HI.out]; rfl
    · rw [(unt_L [34] s).2, HI.out]
  case round =>
    clear hS1 hu ho1
    obtain ⟨a, r, q, hrg, har, rfl, hS, hO, hq, hg1, hg2⟩ := hrel
    have HQ := hide hq; have HG1 := hide hg1; have HG2 := hide hg2; have HO := hide hO
    clear hq hg1 hg2 hO
    obtain ⟨hc1, hc2⟩ := iCells2 hS.sc
    go_wp2_with fail
    refine (until_any ib r (by omega) ⟨#[92, 34]⟩ [92, 34] rfl (by decide) (by decide) (by decide) wr hS.inp).mono ?_
    rintro e w2 ⟨rfl, hi2, ho2⟩
    have hS2 := hS.next hne ho2 hi2
    have hO2 := HO.out.trans ho2 (fun _ h => Or.inl h)
    clear hS hi2 ho2 HO hc1 hc2
    obtain ⟨u, hu⟩ : ∃ u, unt1 [92, 34] r = u := ⟨_, rfl⟩
    obtain ⟨r2, hr2⟩ : ∃ r2, unt2 [92, 34] r = r2 := ⟨_, rfl⟩
    have hus := unt_size [92, 34] r
    obtain ⟨hL1, hL2⟩ := unt_L [92, 34] r
    rw [hu] at hL1 hus
    rw [hr2] at hL2 hus hS2
    rw [hu]
    have hst := Dg.inside_step gk (Dg.L r) (by rw [Dg.len_L]; exact hrg)
    have hsp := Dg.until_split [92, 34] (Dg.L r)
    rw [← hL2] at hst hsp
    rw [← hL1] at hst hsp
    have HL1 := hide hL1
    clear hu hr2 hL1 hL2
    obtain ⟨hc1, hc2⟩ := iCells2 hS2.sc
    have hi := iCells0 hS2.inp
    have HST := hide hst; have HSP := hide hsp
    clear hst hsp
    go_wp2_with fail
    go_quiet (fail)
    have hb3 : Below w2.heap.size w2 (w2.drewN nq) := ⟨rfl, rfl, rfl, Nat.le_refl _, fun _ _ => rfl⟩
    have hS3 := hS2.below hb3
    have hO3 := hO2.next hb3
    clear hS2 hO2 hb3 hc1 hc2 hi
    generalize w2.drewN nq = w3 at *
    obtain ⟨hc1, hc2⟩ := iCells2 hS3.sc
    have hi := iCells0 hS3.inp
    rcases HST.out with ⟨hr0, hin⟩ | ⟨c, r', hr0, h92, hlt, hrg', hin⟩ | ⟨c, r', hr0, h92, hin⟩
    · have he := emp_yes hr0
      have hg1 := HG1.out; have hg2 := HG2.out
      rw [hin] at hg1 hg2
      have e1 : Dg.B G1 = a ++ u := by rw [← hg1]; apply Dg.L_inj; rw [Dg.L_B, Dg.L_append]
      have e2 : Dg.B I2.tail = r2 := by rw [← hg2]; apply Dg.L_inj; rw [Dg.L_B, hr0]; rfl
      clear HST HSP HG1 HG2 HI hg1 hg2 hin
      go_wp2
      go_ret
      rw [e1, e2]
      exact ⟨rfl, hS3, hO3⟩
    · have hne' : Dg.L r2 ≠ [] := by rw [hr0]; simp
      obtain ⟨d, hd, hcut⟩ := HSP.out hne'
      rw [h92] at hd
      cases hd
      have hq2 : Dg.L line = ((q ++ Dg.L u) ++ [92]) ++ Dg.L r2 := by rw [HQ.out, hcut]; simp
      obtain ⟨KK, hsz2, hkl, hk92⟩ := get_cut hq2
      have hz := HZ.out
      have hk4 : wrap64 (wrap64 ((line.size : Int) - (r2.size : Int)) - 1) = (KK : Int) := by unfold wrap64; omega
      have hk0 : ¬ ((KK : Int) < 0) := by omega
      have he := emp_no hne'
      have HR0 := hide hr0; have HRG := hide hrg'; have HLT := hide hlt
      have hr2s : 1 ≤ r2.size := by
        have h9 := Dg.len_L r2
        rw [hr0] at h9
        simp only [List.length_cons] at h9
        omega
      have hr2i : (1 : Int) ≤ (r2.size : Int) := by omega
      obtain ⟨hx1, hx2⟩ := ext_one hr0
      have HX2 := hide hx2; have HIN := hide hin
      obtain ⟨C1, hC1⟩ : ∃ C1, Dg.B [c] = C1 := ⟨_, rfl⟩
      rw [hC1] at hx1
      clear hx2 hne' hcut HST HSP hin
      have HQ2 := hide hq2
      clear hq2 hsz2 hr0 hz hrg' hlt
      go_wp2_with fail
      clear hc1 hc2 hi
      refine wp_region_noPanic ?_
      refine wp_region_L (ScAt sb ib line r2) 14 hmx ?_
      have hb4 := (Below.refl w3.heap.size w3).drew
      have hS4 := hS3.below hb4
      have hO4 := hO3.next hb4
      clear hS3 hO3 hb4
      generalize w3.drew = w4 at *
      refine wpAnyL_take (i := 0) (f0 := 17) (v := ?_) rfl (by decide +kernel) (by decide +kernel) (by decide +kernel) (by decide +kernel) (by decide +kernel) (fun _ _ _ h => h) (Or.inl ⟨by rfl, ?_⟩) hS4 ?_
      rotate_left
      · intro wS hS; go_simp; (try with_reducible rfl)
      simp only [Act.put, List.getElem_toArray, List.getElem_cons_zero, List.setIfInBounds_toArray, List.set_cons_succ, List.set_cons_zero]
      refine wpAnyL_take (i := 1) (f0 := 17) (v := ?_) rfl (by decide +kernel) (by decide +kernel) (by decide +kernel) (by decide +kernel) (by decide +kernel) (fun _ _ _ h => h) (Or.inl ⟨by rfl, ?_⟩) hS4 ?_
      rotate_left
      · intro wS hS; go_simp; (try with_reducible rfl)
      simp only [Act.put, List.getElem_toArray, List.getElem_cons_succ, List.getElem_cons_zero, List.setIfInBounds_toArray, List.set_cons_succ, List.set_cons_zero]
      refine wpAnyL_take (i := 2) (f0 := 17) (v := ?_) rfl (by decide +kernel) (by decide +kernel) (by decide +kernel) (by decide +kernel) (by decide +kernel) (fun _ _ _ h => h) (Or.inl ⟨by rfl, ?_⟩) hS4 ?_
      rotate_left
      · intro wS hS; go_simp; (try with_reducible rfl)
      simp only [Act.put, List.getElem_toArray, List.getElem_cons_succ, List.getElem_cons_zero, List.setIfInBounds_toArray, List.set_cons_succ, List.set_cons_zero]
      refine wpAnyL_take (i := 3) (f0 := 17) (v := ?_) rfl (by decide +kernel) (by decide +kernel) (by decide +kernel) (by decide +kernel) (by decide +kernel) (fun _ _ _ h => h) (Or.inl ⟨by rfl, ?_⟩) hS4 ?_
      rotate_left
      · intro wS hS; have c9 := (iCells2 hS.sc).1; go_simp; (try with_reducible rfl)
      simp only [Act.put, List.getElem_toArray, List.getElem_cons_succ, List.getElem_cons_zero, List.setIfInBounds_toArray, List.set_cons_succ, List.set_cons_zero]
      refine wpAnyL_take (i := 4) (f0 := 17) (v := ?_) rfl (by decide +kernel) (by decide +kernel) (by decide +kernel) (by decide +kernel) (by decide +kernel) (fun _ _ _ h => h) (Or.inl ⟨by rfl, ?_⟩) hS4 ?_
      rotate_left
      · intro wS hS; go_simp; (try with_reducible rfl)
      simp only [Act.put, List.getElem_toArray, List.getElem_cons_succ, List.getElem_cons_zero, List.setIfInBounds_toArray, List.set_cons_succ, List.set_cons_zero]
      refine wpAnyL_take (i := 5) (f0 := 17) (v := ?_) rfl (by decide +kernel) (by decide +kernel) (by decide +kernel) (by decide +kernel) (by decide +kernel) (fun _ _ _ h => h) (Or.inl ⟨by rfl, ?_⟩) hS4 ?_
      rotate_left
      · intro wS hS; go_simp; (try with_reducible rfl)
      simp only [Act.put, List.getElem_toArray, List.getElem_cons_succ, List.getElem_cons_zero, List.setIfInBounds_toArray, List.set_cons_succ, List.set_cons_zero]
      refine wpAnyL_take (i := 6) (f0 := 17) (v := ?_) rfl (by decide +kernel) (by decide +kernel) (by decide +kernel) (by decide +kernel) (by decide +kernel) (fun _ _ _ h => h) (Or.inl ⟨by rfl, ?_⟩) hS4 ?_
      rotate_left
      · intro wS hS; go_simp; (try with_reducible rfl)
      simp only [Act.put, List.getElem_toArray, List.getElem_cons_succ, List.getElem_cons_zero, List.setIfInBounds_toArray, List.set_cons_succ, List.set_cons_zero]
      refine wpAnyL_take (i := 7) (f0 := 17) (v := ?_) rfl (by decide +kernel) (by decide +kernel) (by decide +kernel) (by decide +kernel) (by decide +kernel) (fun _ _ _ h => h) (Or.inl ⟨by rfl, ?_⟩) hS4 ?_
      rotate_left
      · intro wS hS; have c9 := (iCells2 hS.sc).1; go_simp; (try with_reducible rfl)
      simp only [Act.put, List.getElem_toArray, List.getElem_cons_succ, List.getElem_cons_zero, List.setIfInBounds_toArray, List.set_cons_succ, List.set_cons_zero]
      refine wpAnyL_take (i := 8) (f0 := 17) (v := ?_) rfl (by decide +kernel) (by decide +kernel) (by decide +kernel) (by decide +kernel) (by decide +kernel) (fun _ _ _ h => h) (Or.inl ⟨by rfl, ?_⟩) hS4 ?_
      rotate_left
      · intro wS hS; go_simp; (try with_reducible rfl)
      simp only [Act.put, List.getElem_toArray, List.getElem_cons_succ, List.getElem_cons_zero, List.setIfInBounds_toArray, List.set_cons_succ, List.set_cons_zero]
      refine wpAnyL_take (i := 9) (f0 := 17) (v := ?_) rfl (by decide +kernel) (by decide +kernel) (by decide +kernel) (by decide +kernel) (by decide +kernel) (fun _ _ _ h => h) (Or.inl ⟨by rfl, ?_⟩) hS4 ?_
      rotate_left
      · intro wS hS; go_simp; (try with_reducible rfl)
      simp only [Act.put, List.getElem_toArray, List.getElem_cons_succ, List.getElem_cons_zero, List.setIfInBounds_toArray, List.set_cons_succ, List.set_cons_zero]
      refine wpAnyL_take (i := 10) (f0 := 17) (v := ?_) rfl (by decide +kernel) (by decide +kernel) (by decide +kernel) (by decide +kernel) (by decide +kernel) (fun _ _ _ h => h) (Or.inl ⟨by rfl, ?_⟩) hS4 ?_
      rotate_left
      · intro wS hS; have c9 := iCells0 hS.inp; go_simp; (try with_reducible rfl)
      simp only [Act.put, List.getElem_toArray, List.getElem_cons_succ, List.getElem_cons_zero, List.setIfInBounds_toArray, List.set_cons_succ, List.set_cons_zero]
      refine wpAnyL_take (i := 11) (f0 := 17) (v := ?_) rfl (by decide +kernel) (by decide +kernel) (by decide +kernel) (by decide +kernel) (by decide +kernel) (fun _ _ _ h => h) (Or.inl ⟨by rfl, ?_⟩) hS4 ?_
      rotate_left
      · intro wS hS; go_simp; (try with_reducible rfl)
      simp only [Act.put, List.getElem_toArray, List.getElem_cons_succ, List.getElem_cons_zero, List.setIfInBounds_toArray, List.set_cons_succ, List.set_cons_zero]
      refine wpAnyL_take (i := 12) (f0 := 17) (v := ?_) rfl (by decide +kernel) (by decide +kernel) (by decide +kernel) (by decide +kernel) (by decide +kernel) (fun _ _ _ h => h) (Or.inl ⟨by rfl, ?_⟩) hS4 ?_
      rotate_left
      · intro wS hS; go_simp; (try with_reducible rfl)
      simp only [Act.put, List.getElem_toArray, List.getElem_cons_succ, List.getElem_cons_zero, List.setIfInBounds_toArray, List.set_cons_succ, List.set_cons_zero]
      refine wpAnyL_take (i := 13) (f0 := 17) (v := ?_) rfl (by decide +kernel) (by decide +kernel) (by decide +kernel) (by decide +kernel) (by decide +kernel) (fun _ _ _ h => h) (Or.inl ⟨by rfl, ?_⟩) hS4 ?_
      rotate_left
      · intro wS hS; go_simp; (try with_reducible rfl)
      simp only [Act.put, List.getElem_toArray, List.getElem_cons_succ, List.getElem_cons_zero, List.setIfInBounds_toArray, List.set_cons_succ, List.set_cons_zero]
      refine wpAnyL_one (i := 14) (by decide +kernel) (by rfl) (fun K hK => ?_)
      rw [if_pos (by rfl)]
      have c9 := iCells0 hS4.inp
      have fz9 := frozen_of_row _ ib 0 _ _ hS4.inp
      go_simp
      have hrf : InAt ib (r2.extract 1 r2.size) (w4.setCell ⟨ib, 0, none⟩ (.string (r2.extract 1 r2.size))) := setCell_row1 hS4.inp (.string (r2.extract 1 r2.size))
      have hof := hO4.setCell (p := ⟨ib, 0, none⟩) (List.mem_singleton.2 rfl) (.string (r2.extract 1 r2.size))
      have hsf := hS4.next hne ((Off.refl [ib] w4).setCell (p := ⟨ib, 0, none⟩) (List.mem_singleton.2 rfl) (.string (r2.extract 1 r2.size))) hrf
      refine hK.out _ _ (Or.inl (by decide +kernel)) ?_
      clear hK K
      try simp only [Act.put, List.getElem_toArray, List.getElem_cons_succ, List.getElem_cons_zero, List.setIfInBounds_toArray, List.set_cons_succ, List.set_cons_zero]
      refine wpAnyL_done (by decide +kernel) ?_ _
      refine NoPanic.normal ?_
      rw [HX2.out] at hsf hof
      clear hrf c9 fz9 hS4 hO4
      rw [HX2.out]
      generalize w4.setCell ⟨ib, 0, none⟩ (.string (Dg.B r')) = w5 at *
      have hCs : C1.size = 1 := by rw [← hC1]; rfl
      have hLr : Dg.L (Dg.B r') = r' := Dg.L_B _
      have hrs : (Dg.B r').size = r'.length := by rw [← Dg.len_L, hLr]
      have hrel : ∀ X : ByteArray, Dg.L X = [Dg.unesc c] → (∃ (a' r : ByteArray) (q : List UInt8), r.size ≤ gk - 1 ∧ a'.size + r.size ≤ 1000000 ∧ Value.string (a ++ u ++ X) = .string a' ∧ ScAt sb ib line r w5 ∧ Off [ib] w w5 ∧ Dg.L line = q ++ Dg.L r ∧ Dg.L a' ++ (Dg.insideP (gk - 1) (Dg.L r)).1 = G1 ∧ (Dg.insideP (gk - 1) (Dg.L r)).2 = I2) := fun X hX => by
        have h1 := HG1.out; have h2 := HG2.out; have h3 := HQ2.out; have h4 := HR0.out; have h5 := HRG.out
        rw [HIN.out] at h1 h2
        have hXs : X.size = 1 := by rw [← Dg.len_L, hX]; rfl
        have h6 : r2.size = r'.length + 1 := by rw [← Dg.len_L, h4]; rfl
        refine ⟨a ++ u ++ X, Dg.B r', q ++ Dg.L u ++ [92] ++ [c], by rw [hrs]; exact h5, by rw [ByteArray.size_append, ByteArray.size_append, hrs]; omega, rfl, hsf, hof, ?_, ?_, ?_⟩
        · rw [h3, h4, hLr]; simp
        · rw [hLr, Dg.L_append, Dg.L_append, hX, ← h1]; simp
        · rw [hLr]; exact h2
      have HREL := hide hrel
      clear hrel
      by_cases hc : c = 110
      · have hcn : C1 = ⟨#[110]⟩ := by rw [← hC1, hc]; rfl
        have hcl : (C1.toList == [110]) = true := by rw [Lib.toList_data, hcn]; rfl
        clear hcn
        go_wp2
        go_roundg (gk - 1)
        case measure => have := HLT.out; rw [Dg.len_L] at this; omega
        case rel => exact HREL.out _ (by rw [hc]; rfl)
      · have hcl : (C1.toList == [110]) = false := by
          rw [Lib.toList_data]
          show (Dg.L C1 == [110]) = false
          rw [← hC1, Dg.L_B]
          exact beq_eq_false_iff_ne.2 (by simpa using hc)
        go_wp2
        go_roundg (gk - 1)
        case measure => have := HLT.out; rw [Dg.len_L] at this; omega
        case rel => exact HREL.out _ (by rw [← hC1, Dg.L_B]; unfold Dg.unesc; rw [if_neg hc])
    · have hne' : Dg.L r2 ≠ [] := by rw [hr0]; simp
      obtain ⟨d, hd, hcut⟩ := HSP.out hne'
      have hq2 : Dg.L line = ((q ++ Dg.L u) ++ [d]) ++ Dg.L r2 := by rw [HQ.out, hcut]; simp
      obtain ⟨KK, hsz2, hkl, hkd⟩ := get_cut hq2
      have hd92 : d ≠ 92 := fun e => by rw [hd, e] at h92; exact h92 rfl
      have hz := HZ.out
      have hk4 : wrap64 (wrap64 ((line.size : Int) - (r2.size : Int)) - 1) = (KK : Int) := by unfold wrap64; omega
      have hk0 : ¬ ((KK : Int) < 0) := by omega
      have he := emp_no hne'
      have hr2s : 1 ≤ r2.size := by
        have h9 := Dg.len_L r2
        rw [hr0] at h9
        simp only [List.length_cons] at h9
        omega
      have hr2i : (1 : Int) ≤ (r2.size : Int) := by omega
      have hdn : ((d.toNat : Int) != 92) = true := bne_iff_ne.2 (fun e => hd92 (by apply UInt8.toNat_inj.1; show d.toNat = 92; omega))
      obtain ⟨hx1, hx2⟩ := ext_one hr0
      have HX2 := hide hx2
      have hg1 := HG1.out; have hg2 := HG2.out
      rw [hin] at hg1 hg2
      have e1 : Dg.B G1 = a ++ u := by rw [← hg1]; apply Dg.L_inj; rw [Dg.L_B, Dg.L_append]
      have e2 : Dg.B I2.tail = Dg.B r' := by rw [← hg2]; rfl
      have HE1 := hide e1; have HE2 := hide e2
      clear hx1 hx2 hne' hcut HST HSP hin hq2 hsz2 hz hd hd92 hr0 h92 hg1 hg2 HG1 HG2 HI HQ HL1 e1 e2 HP
      go_wp2_with fail
      clear hc1 hc2 hi
      refine wp_region_noPanic ?_
      refine wp_region_L (ScAt sb ib line r2) 14 hmx ?_
      have hb4 := (Below.refl w3.heap.size w3).drew
      have hS4 := hS3.below hb4
      have hO4 := hO3.next hb4
      clear hS3 hO3 hb4
      generalize w3.drew = w4 at *
      refine wpAnyL_take (i := 0) (f0 := 17) (v := ?_) rfl (by decide +kernel) (by decide +kernel) (by decide +kernel) (by decide +kernel) (by decide +kernel) (fun _ _ _ h => h) (Or.inl ⟨by rfl, ?_⟩) hS4 ?_
      rotate_left
      · intro wS hS; go_simp; (try with_reducible rfl)
      simp only [Act.put, List.getElem_toArray, List.getElem_cons_zero, List.setIfInBounds_toArray, List.set_cons_succ, List.set_cons_zero]
      refine wpAnyL_take (i := 1) (f0 := 17) (v := ?_) rfl (by decide +kernel) (by decide +kernel) (by decide +kernel) (by decide +kernel) (by decide +kernel) (fun _ _ _ h => h) (Or.inl ⟨by rfl, ?_⟩) hS4 ?_
      rotate_left
      · intro wS hS; go_simp; (try with_reducible rfl)
      simp only [Act.put, List.getElem_toArray, List.getElem_cons_succ, List.getElem_cons_zero, List.setIfInBounds_toArray, List.set_cons_succ, List.set_cons_zero]
      refine wpAnyL_take (i := 2) (f0 := 17) (v := ?_) rfl (by decide +kernel) (by decide +kernel) (by decide +kernel) (by decide +kernel) (by decide +kernel) (fun _ _ _ h => h) (Or.inl ⟨by rfl, ?_⟩) hS4 ?_
      rotate_left
      · intro wS hS; go_simp; (try with_reducible rfl)
      simp only [Act.put, List.getElem_toArray, List.getElem_cons_succ, List.getElem_cons_zero, List.setIfInBounds_toArray, List.set_cons_succ, List.set_cons_zero]
      refine wpAnyL_take (i := 3) (f0 := 17) (v := ?_) rfl (by decide +kernel) (by decide +kernel) (by decide +kernel) (by decide +kernel) (by decide +kernel) (fun _ _ _ h => h) (Or.inl ⟨by rfl, ?_⟩) hS4 ?_
      rotate_left
      · intro wS hS; have c9 := (iCells2 hS.sc).1; go_simp; (try with_reducible rfl)
      simp only [Act.put, List.getElem_toArray, List.getElem_cons_succ, List.getElem_cons_zero, List.setIfInBounds_toArray, List.set_cons_succ, List.set_cons_zero]
      refine wpAnyL_take (i := 4) (f0 := 17) (v := ?_) rfl (by decide +kernel) (by decide +kernel) (by decide +kernel) (by decide +kernel) (by decide +kernel) (fun _ _ _ h => h) (Or.inl ⟨by rfl, ?_⟩) hS4 ?_
      rotate_left
      · intro wS hS; go_simp; (try with_reducible rfl)
      simp only [Act.put, List.getElem_toArray, List.getElem_cons_succ, List.getElem_cons_zero, List.setIfInBounds_toArray, List.set_cons_succ, List.set_cons_zero]
      refine wpAnyL_take (i := 5) (f0 := 17) (v := ?_) rfl (by decide +kernel) (by decide +kernel) (by decide +kernel) (by decide +kernel) (by decide +kernel) (fun _ _ _ h => h) (Or.inl ⟨by rfl, ?_⟩) hS4 ?_
      rotate_left
      · intro wS hS; go_simp; (try with_reducible rfl)
      simp only [Act.put, List.getElem_toArray, List.getElem_cons_succ, List.getElem_cons_zero, List.setIfInBounds_toArray, List.set_cons_succ, List.set_cons_zero]
      refine wpAnyL_take (i := 6) (f0 := 17) (v := ?_) rfl (by decide +kernel) (by decide +kernel) (by decide +kernel) (by decide +kernel) (by decide +kernel) (fun _ _ _ h => h) (Or.inl ⟨by rfl, ?_⟩) hS4 ?_
      rotate_left
      · intro wS hS; go_simp; (try with_reducible rfl)
      simp only [Act.put, List.getElem_toArray, List.getElem_cons_succ, List.getElem_cons_zero, List.setIfInBounds_toArray, List.set_cons_succ, List.set_cons_zero]
      refine wpAnyL_take (i := 7) (f0 := 17) (v := ?_) rfl (by decide +kernel) (by decide +kernel) (by decide +kernel) (by decide +kernel) (by decide +kernel) (fun _ _ _ h => h) (Or.inl ⟨by rfl, ?_⟩) hS4 ?_
      rotate_left
      · intro wS hS; have c9 := (iCells2 hS.sc).1; go_simp; (try with_reducible rfl)
      simp only [Act.put, List.getElem_toArray, List.getElem_cons_succ, List.getElem_cons_zero, List.setIfInBounds_toArray, List.set_cons_succ, List.set_cons_zero]
      refine wpAnyL_take (i := 8) (f0 := 17) (v := ?_) rfl (by decide +kernel) (by decide +kernel) (by decide +kernel) (by decide +kernel) (by decide +kernel) (fun _ _ _ h => h) (Or.inl ⟨by rfl, ?_⟩) hS4 ?_
      rotate_left
      · intro wS hS; go_simp; (try with_reducible rfl)
      simp only [Act.put, List.getElem_toArray, List.getElem_cons_succ, List.getElem_cons_zero, List.setIfInBounds_toArray, List.set_cons_succ, List.set_cons_zero]
      refine wpAnyL_take (i := 9) (f0 := 17) (v := ?_) rfl (by decide +kernel) (by decide +kernel) (by decide +kernel) (by decide +kernel) (by decide +kernel) (fun _ _ _ h => h) (Or.inl ⟨by rfl, ?_⟩) hS4 ?_
      rotate_left
      · intro wS hS; go_simp; (try with_reducible rfl)
      simp only [Act.put, List.getElem_toArray, List.getElem_cons_succ, List.getElem_cons_zero, List.setIfInBounds_toArray, List.set_cons_succ, List.set_cons_zero]
      refine wpAnyL_take (i := 10) (f0 := 17) (v := ?_) rfl (by decide +kernel) (by decide +kernel) (by decide +kernel) (by decide +kernel) (by decide +kernel) (fun _ _ _ h => h) (Or.inl ⟨by rfl, ?_⟩) hS4 ?_
      rotate_left
      · intro wS hS; have c9 := iCells0 hS.inp; go_simp; (try with_reducible rfl)
      simp only [Act.put, List.getElem_toArray, List.getElem_cons_succ, List.getElem_cons_zero, List.setIfInBounds_toArray, List.set_cons_succ, List.set_cons_zero]
      refine wpAnyL_take (i := 11) (f0 := 17) (v := ?_) rfl (by decide +kernel) (by decide +kernel) (by decide +kernel) (by decide +kernel) (by decide +kernel) (fun _ _ _ h => h) (Or.inl ⟨by rfl, ?_⟩) hS4 ?_
      rotate_left
      · intro wS hS; go_simp; (try with_reducible rfl)
      simp only [Act.put, List.getElem_toArray, List.getElem_cons_succ, List.getElem_cons_zero, List.setIfInBounds_toArray, List.set_cons_succ, List.set_cons_zero]
      refine wpAnyL_take (i := 12) (f0 := 17) (v := ?_) rfl (by decide +kernel) (by decide +kernel) (by decide +kernel) (by decide +kernel) (by decide +kernel) (fun _ _ _ h => h) (Or.inl ⟨by rfl, ?_⟩) hS4 ?_
      rotate_left
      · intro wS hS; go_simp; (try with_reducible rfl)
      simp only [Act.put, List.getElem_toArray, List.getElem_cons_succ, List.getElem_cons_zero, List.setIfInBounds_toArray, List.set_cons_succ, List.set_cons_zero]
      refine wpAnyL_take (i := 13) (f0 := 17) (v := ?_) rfl (by decide +kernel) (by decide +kernel) (by decide +kernel) (by decide +kernel) (by decide +kernel) (fun _ _ _ h => h) (Or.inl ⟨by rfl, ?_⟩) hS4 ?_
      rotate_left
      · intro wS hS; go_simp; (try with_reducible rfl)
      simp only [Act.put, List.getElem_toArray, List.getElem_cons_succ, List.getElem_cons_zero, List.setIfInBounds_toArray, List.set_cons_succ, List.set_cons_zero]
      refine wpAnyL_one (i := 14) (by decide +kernel) (by rfl) (fun K hK => ?_)
      rw [if_pos (by rfl)]
      have c9 := iCells0 hS4.inp
      have fz9 := frozen_of_row _ ib 0 _ _ hS4.inp
      go_simp
      have hrf : InAt ib (r2.extract 1 r2.size) (w4.setCell ⟨ib, 0, none⟩ (.string (r2.extract 1 r2.size))) := setCell_row1 hS4.inp (.string (r2.extract 1 r2.size))
      have hof := hO4.setCell (p := ⟨ib, 0, none⟩) (List.mem_singleton.2 rfl) (.string (r2.extract 1 r2.size))
      have hsf := hS4.next hne ((Off.refl [ib] w4).setCell (p := ⟨ib, 0, none⟩) (List.mem_singleton.2 rfl) (.string (r2.extract 1 r2.size))) hrf
      refine hK.out _ _ (Or.inl (by decide +kernel)) ?_
      clear hK K
      try simp only [Act.put, List.getElem_toArray, List.getElem_cons_succ, List.getElem_cons_zero, List.setIfInBounds_toArray, List.set_cons_succ, List.set_cons_zero]
      refine wpAnyL_done (by decide +kernel) ?_ _
      refine NoPanic.normal ?_
      rw [HX2.out] at hsf hof
      clear hrf c9 fz9 hS4 hO4
      rw [HX2.out]
      generalize w4.setCell ⟨ib, 0, none⟩ (.string (Dg.B r')) = w5 at *
      go_wp2
      go_ret
      rw [HE1.out, HE2.out]
      exact ⟨rfl, hsf, hof⟩
end Go.Proofs.YtpldhempbdionaaGreatDoor
/- Small lemmas on strings. No conditions but those that each theorem states. -/
namespace Go.Proofs.YtpldhempbdionaaGreatDoor
open Go Go.RowKit Go.Sort Go.Maps
theorem bs_iff (a b : ByteArray) : (a.toList == b.toList) = true ↔ a = b := by
  rw [beq_iff_eq]
  constructor
  · intro h
    rw [ByteArray.toList_eq, ByteArray.toList_eq] at h
    obtain ⟨⟨x⟩⟩ := a
    obtain ⟨⟨y⟩⟩ := b
    simpa using h
  · rintro rfl; rfl
theorem bs_yes {a b : ByteArray} (h : a = b) : (a.toList == b.toList) = true := (bs_iff a b).2 h
theorem bs_no {a b : ByteArray} (h : a ≠ b) : (a.toList == b.toList) = false := by
  cases e : a.toList == b.toList with
  | false => rfl
  | true => exact absurd ((bs_iff a b).1 e) h
theorem ret_intV {k : IntKind} {a b : Int} (h : a = b) : Ending.returned (.int k a) = .returned (.int k b) := by rw [h]
def sliceLen : Value → Nat
  | .slice _ n _ => n
  | _ => 0
end Go.Proofs.YtpldhempbdionaaGreatDoor
/- Find and In of the reference. No conditions but those that each theorem states. -/
namespace Go.Proofs.YtpldhempbdionaaGreatDoor
open Go Go.RowKit Go.Sort Go.Maps
set_option maxRecDepth 100000 in
set_option maxHeartbeats 8000000 in
theorem rfind_of (l : List Dg.It) (A : Option Addr) (n c : Nat) (hl : l.length = n) (hn : n ≤ 9223372036854775807) (id : ByteArray) (w : World) (hI : Its w w.heap.size A l) (K0 : Int) (hK0 : findX l id = K0) :
    Calls Tryz.prog 28 #[.agg #[.slice A n c], .string id] w fun e w' => e = .returned (.int .i64 K0) ∧ Below w.heap.size w w' := by
  have hx1 := Below.news (Below.refl w.heap.size w) (.cells #[.slice A n c] 24)
  have hrow := heap_alloc_new w (.cells #[.slice A n c] 24)
  have hI1 := hI.keep hx1
  have HL := hide hl; have HK := hide hK0
  clear hl hK0 hI
  go_enter Tryz.func28, Tryz.ntmps28
  go_wp2
  generalize w.alloc (.cells #[.slice A n c] 24) = w1 at *
  have hc := iCells0 hrow
  go_loop [5] (fun iv => ∃ k : Nat, k ≤ n ∧ iv = .int .i64 (k : Int) ∧ Hid (∀ x ∈ l.take k, x.id ≠ id)) (fun iv => n - (intOf iv).toNat)
  case atStart => exact ⟨0, by omega, rfl, fun x hx => by simp at hx⟩
  case round =>
    obtain ⟨k, hk, rfl, hall⟩ := hrel
    by_cases hlt : k < n
    · have hkn : (k : Int) < (n : Int) := by omega
      have hk0 : (0 : Int) ≤ (k : Int) := by omega
      have hkl : k < l.length := by rw [HL.out]; exact hlt
      obtain ⟨b, off, rfl⟩ := hI1.some hkl
      obtain ⟨x, hx⟩ : ∃ x, l[k] = x := ⟨_, rfl⟩
      obtain ⟨_, p0, p1, p2, p3, p4, p5, p6⟩ := hI1.cells hkl x hx
      have HX := hide hx
      clear hx p0 p2 p3 p4 p5 p6
      by_cases he : x.id = id
      · have hb := bs_yes he
        have E9 := hide (show (k : Int) = K0 by rw [← HK.out]; exact (findX_at hkl (by rw [HX.out]; exact he) hall.out).symm)
        clear he
        go_wp2
        go_ret
        exact ⟨ret_intV E9.out, hx1⟩
      · have hb := bs_no he
        have HE := hide he
        clear he
        go_wp2
        go_round
        case rel => exact ⟨k + 1, by omega, by go_num, fun y hy => by
          rw [List.take_succ_eq_append_getElem hkl, HX.out] at hy
          rcases List.mem_append.1 hy with h | h
          · exact hall.out y h
          · rw [List.mem_singleton.1 h]; exact HE.out⟩
        case measure => simp [intOf]; omega
    · obtain rfl : k = n := by omega
      have E9 := hide (show (-1 : Int) = K0 by rw [← HK.out]; exact (findX_none (by have h := hall.out; rw [← HL.out, List.take_length] at h; exact h)).symm)
      go_wp2
      go_ret
      exact ⟨ret_intV E9.out, hx1⟩
set_option maxHeartbeats 4000000 in
theorem rin_of (l : List ByteArray) (A : Option Addr) (n c : Nat) (hl : l.length = n) (hn : n ≤ 9223372036854775807) (s : ByteArray) (w : World) (hS : Strs w w.heap.size A l) (R : Bool) (hR : Dg.inB l s = R) :
    Calls Tryz.prog 66 #[.slice A n c, .string s] w fun e w' => e = .returned (.bool R) ∧ w' = w := by
  have HL := hide hl; have HR := hide hR
  clear hl hR
  go_enter Tryz.func66, Tryz.ntmps66
  go_wp2
  go_loop [5] (fun iv => ∃ k : Nat, k ≤ n ∧ iv = .int .i64 (k : Int) ∧ Hid (∀ x ∈ l.take k, x ≠ s)) (fun iv => n - (intOf iv).toNat)
  case atStart => exact ⟨0, by omega, rfl, fun x hx => by simp at hx⟩
  case round =>
    obtain ⟨k, hk, rfl, hall⟩ := hrel
    by_cases hlt : k < n
    · have hkn : (k : Int) < (n : Int) := by omega
      have hk0 : (0 : Int) ≤ (k : Int) := by omega
      have hkl : k < l.length := by rw [HL.out]; exact hlt
      obtain ⟨b, off, rfl, _, hc⟩ := hS.get hkl
      obtain ⟨x, hx⟩ : ∃ x, l[k] = x := ⟨_, rfl⟩
      rw [hx] at hc
      have HX := hide hx
      clear hx
      by_cases he : x = s
      · have hb := bs_yes he
        have E9 := hide (show true = R by rw [← HR.out]; exact ((Dg.inB_iff l s).2 (by rw [← he, ← HX.out]; exact List.getElem_mem hkl)).symm)
        clear he
        go_wp2
        go_ret
        exact ⟨ret_bool E9.out, rfl⟩
      · have hb := bs_no he
        have HE := hide he
        clear he
        go_wp2
        go_round
        case rel => exact ⟨k + 1, by omega, by go_num, fun y hy => by
          rw [List.take_succ_eq_append_getElem hkl, HX.out] at hy
          rcases List.mem_append.1 hy with h | h
          · exact hall.out y h
          · rw [List.mem_singleton.1 h]; exact HE.out⟩
        case measure => simp [intOf]; omega
    · obtain rfl : k = n := by omega
      have E9 := hide (show false = R by rw [← HR.out]; exact ((Dg.inB_no l s).2 (fun hm => by have h := hall.out; rw [← HL.out, List.take_length] at h; exact h s hm rfl)).symm)
      go_wp2
      go_ret
      exact ⟨ret_bool E9.out, rfl⟩
end Go.Proofs.YtpldhempbdionaaGreatDoor
/- Few of the reference, few of the laws. No conditions but those that each theorem states. -/
namespace Go.Proofs.YtpldhempbdionaaGreatDoor
open Go Go.RowKit Go.Sort Go.Maps
/-- An item whose strings have at most 500 bytes. -/
def smallI (x : Dg.It) : Bool := decide (x.id.size ≤ 500) && decide (x.parent.size ≤ 500) && decide (x.number.size ≤ 500) && decide (x.north.size ≤ 500) && decide (x.south.size ≤ 500)
def fewC (l : List Dg.It) (m : Nat) : Bool := decide (l.length ≤ m) && (l.take m).all smallI
theorem smallI_iff (x : Dg.It) : smallI x = true ↔ x.id.size ≤ 500 ∧ x.parent.size ≤ 500 ∧ x.number.size ≤ 500 ∧ x.north.size ≤ 500 ∧ x.south.size ≤ 500 := by
  unfold smallI
  simp only [Bool.and_eq_true, decide_eq_true_eq, and_assoc]
theorem fewC_spec {l : List Dg.It} {m : Nat} (h : fewC l m = true) : l.length ≤ m ∧ ∀ x ∈ l, smallI x = true := by
  unfold fewC at h
  rw [Bool.and_eq_true, decide_eq_true_eq] at h
  refine ⟨h.1, fun x hx => ?_⟩
  rw [List.take_of_length_le h.1, List.all_eq_true] at h
  exact h.2 x hx
theorem small_fields {x : Dg.It} (h : smallI x = true) : ∀ s ∈ Dg.fieldsI x, s.size ≤ 500 := fun s hs => by
  obtain ⟨h1, h2, h3, h4, h5⟩ := (smallI_iff x).1 h
  unfold Dg.fieldsI at hs
  simp only [List.mem_cons, List.not_mem_nil, or_false] at hs
  rcases hs with rfl | rfl | rfl | rfl | rfl | rfl
  · unfold Dg.kindW; split <;> (try split) <;> decide
  · exact h1
  · exact h2
  · exact h3
  · exact h4
  · exact h5
theorem fewC_no {l : List Dg.It} {m k : Nat} (hk : k < l.length) (hm : k < m) (h : smallI l[k] = false) : fewC l m = false := by
  unfold fewC
  have : (l.take m).all smallI = false := by
    rw [List.all_eq_false]
    exact ⟨l[k], List.mem_take_iff_getElem.2 ⟨k, by omega, rfl⟩, by rw [h]; exact Bool.false_ne_true⟩
  rw [this, Bool.and_false]
theorem fewC_yes {l : List Dg.It} {m : Nat} (hm : l.length ≤ m) (h : ∀ x ∈ l, smallI x = true) : fewC l m = true := by
  unfold fewC
  rw [decide_eq_true hm, Bool.true_and, List.take_of_length_le hm, List.all_eq_true]
  exact h
theorem fewC_many {l : List Dg.It} {m : Nat} (hm : m < l.length) : fewC l m = false := by
  unfold fewC
  rw [decide_eq_false (by omega), Bool.false_and]
set_option maxRecDepth 100000 in
set_option maxHeartbeats 8000000 in
theorem rfew_of (l : List Dg.It) (A : Option Addr) (n c m : Nat) (hl : l.length = n) (hn : n ≤ 9223372036854775807) (hm : m ≤ 1000) (w : World) (hI : Its w w.heap.size A l) (R : Bool) (hR : fewC l m = R) :
    Calls Tryz.prog 34 #[.agg #[.slice A n c], .int .i64 (m : Int)] w fun e w' => e = .returned (.bool R) ∧ Below w.heap.size w w' := by
  have hx1 := Below.news (Below.refl w.heap.size w) (.cells #[.slice A n c] 24)
  have hrow := heap_alloc_new w (.cells #[.slice A n c] 24)
  have HL := hide hl; have HR := hide hR; have HI := hide hI
  clear hl hR hI
  go_enter Tryz.func34, Tryz.ntmps34
  go_wp2
  go_loopw [5] (fun iv wr => ∃ k : Nat, k ≤ n ∧ k ≤ m ∧ iv = .int .i64 (k : Int) ∧ Below w.heap.size w wr ∧ wr.heap[w.heap.size]? = some (.cells #[.slice A n c] 24 (0, 0)) ∧ Hid (∀ x ∈ l.take k, smallI x = true)) (fun iv _ => n - (intOf iv).toNat)
  case atStart => exact ⟨0, by omega, by omega, rfl, hx1, hrow, fun x hx => by simp at hx⟩
  case round =>
    obtain ⟨k, hk, hkm, rfl, hb, hr, hall⟩ := hrel
    clear hrow hx1
    have hc := iCells0 hr
    by_cases hlt : k < n
    · have hkn : (k : Int) < (n : Int) := by omega
      by_cases hlm : k < m
      · have hkm2 : (k : Int) < (m : Int) := by omega
        have hk0 : (0 : Int) ≤ (k : Int) := by omega
        have hkl : k < l.length := by rw [HL.out]; exact hlt
        have hIr := HI.out.below hb
        obtain ⟨b, off, rfl⟩ := hIr.some hkl
        obtain ⟨x, hx⟩ : ∃ x, l[k] = x := ⟨_, rfl⟩
        obtain ⟨hbl, p0, p1, p2, p3, p4, p5, p6⟩ := hIr.cells hkl x hx
        have HX := hide hx
        clear hx hIr
        have hx2 := Below.news (Below.refl wr.heap.size wr) (.cells #[.int .i64 x.kind, .string x.id, .string x.parent, .string x.number, .string x.north, .string x.south, .bool x.gone] 31)
        have hrx := heap_alloc_new wr (.cells #[.int .i64 x.kind, .string x.id, .string x.parent, .string x.number, .string x.north, .string x.south, .bool x.gone] 31)
        have hr2 := iNext hr hx2
        have hb2 := bnext hb hx2
        go_upto_region 5 with (fail)
        generalize wr.alloc (.cells #[.int .i64 x.kind, .string x.id, .string x.parent, .string x.number, .string x.north, .string x.south, .bool x.gone] 31) = w2 at *
        obtain ⟨c0, c1, c2, c3, c4, c5, c6⟩ := iCells hrx
        clear p0 p1 p2 p3 p4 p5 p6 hc hr hx2 hb
        by_cases s0 : (500 : Int) < (x.id.size : Int)
        · skip
          have E9 := hide (show false = R by rw [← HR.out]; exact (fewC_no hkl hlm (by rw [HX.out]; cases hs : smallI x with | false => rfl | true => exact absurd ((smallI_iff x).1 hs) (by omega))).symm)
          go_wp2
          go_ret
          exact ⟨ret_bool E9.out, hb2⟩
        by_cases s1 : (500 : Int) < (x.parent.size : Int)
        · skip
          have E9 := hide (show false = R by rw [← HR.out]; exact (fewC_no hkl hlm (by rw [HX.out]; cases hs : smallI x with | false => rfl | true => exact absurd ((smallI_iff x).1 hs) (by omega))).symm)
          go_wp2
          go_ret
          exact ⟨ret_bool E9.out, hb2⟩
        by_cases s2 : (500 : Int) < (x.number.size : Int)
        · skip
          have E9 := hide (show false = R by rw [← HR.out]; exact (fewC_no hkl hlm (by rw [HX.out]; cases hs : smallI x with | false => rfl | true => exact absurd ((smallI_iff x).1 hs) (by omega))).symm)
          go_wp2
          go_ret
          exact ⟨ret_bool E9.out, hb2⟩
        by_cases s3 : (500 : Int) < (x.north.size : Int)
        · skip
          have E9 := hide (show false = R by rw [← HR.out]; exact (fewC_no hkl hlm (by rw [HX.out]; cases hs : smallI x with | false => rfl | true => exact absurd ((smallI_iff x).1 hs) (by omega))).symm)
          go_wp2
          go_ret
          exact ⟨ret_bool E9.out, hb2⟩
        by_cases s4 : (500 : Int) < (x.south.size : Int)
        · skip
          have E9 := hide (show false = R by rw [← HR.out]; exact (fewC_no hkl hlm (by rw [HX.out]; cases hs : smallI x with | false => rfl | true => exact absurd ((smallI_iff x).1 hs) (by omega))).symm)
          go_wp2
          go_ret
          exact ⟨ret_bool E9.out, hb2⟩
        have HS := hide (show smallI x = true from (smallI_iff x).2 (by omega))
        go_wp2
        go_roundw
        case rel => exact ⟨k + 1, by omega, by omega, by go_num, hb2, hr2, fun y hy => by
          rw [List.take_succ_eq_append_getElem hkl, HX.out] at hy
          rcases List.mem_append.1 hy with h | h
          · exact hall.out y h
          · rw [List.mem_singleton.1 h]; exact HS.out⟩
        case measure => simp [intOf]; omega
      · obtain rfl : k = m := by omega
        have hkm2 : ¬ (k : Int) < (k : Int) := by omega
        have hnn : ¬ (n : Int) ≤ (k : Int) := by omega
        have hf := fewC_many (l := l) (m := k) (by rw [HL.out]; exact hlt)
        have e9 := HR.out
        rw [hf] at e9
        have E9 := hide e9
        clear hf e9
        go_wp2
        go_ret
        exact ⟨ret_bool E9.out, hb⟩
    · obtain rfl : k = n := by omega
      have hkn : ¬ (k : Int) < (k : Int) := by omega
      have hnn : (k : Int) ≤ (m : Int) := by omega
      have hf := fewC_yes (l := l) (m := m) (by rw [HL.out]; exact hkm) (by have h := hall.out; rw [← HL.out, List.take_length] at h; exact h)
      have e9 := HR.out
      rw [hf] at e9
      have E9 := hide e9
      clear hf e9
      go_wp2
      go_ret
      exact ⟨ret_bool E9.out, hb⟩
end Go.Proofs.YtpldhempbdionaaGreatDoor
/- Fields of the reference for codes. No conditions but those that each theorem states. -/
namespace Go.Proofs.YtpldhempbdionaaGreatDoor
open Go Go.RowKit Go.Sort Go.Maps
theorem grown_row {u u' : World} {own : Option Nat} {g : Nat} {o : Obj} (hg : u.grownBy u' own) (h : u.heap[g]? = some o) (hne : ∀ k, own = some k → k ≠ g) : u'.heap[g]? = some o :=
  (hg.block g (lt_of_block h) (fun e => hne g e.symm rfl)).trans h
theorem grown_up {B : Nat} {a u u' : World} {own : Option Nat} (hb : Below B a u) (hg : u.grownBy u' own) (hne : ∀ k, own = some k → B ≤ k) (hs : B ≤ a.heap.size := by omega) : Below B a u' :=
  hb.grown hg (Nat.le_trans hs hb.size) hne
theorem fields_snoc {l : List Dg.It} {k : Nat} (hk : k < l.length) : Dg.fieldsC (l.take (k + 1)) = Dg.fieldsC (l.take k) ++ [Dg.kindW l[k], l[k].id, l[k].parent, l[k].number, l[k].north, l[k].south] := by
  rw [List.take_succ_eq_append_getElem hk]
  unfold Dg.fieldsC
  rw [List.flatMap_append, List.flatMap_singleton]
  rfl
theorem fields_len (l : List Dg.It) : (Dg.fieldsC l).length = l.length * 6 := by
  induction l with
  | nil => rfl
  | cons x l ih =>
    show (Dg.fieldsI x ++ Dg.fieldsC l).length = _
    rw [List.length_append, ih, List.length_cons]
    show 6 + l.length * 6 = _
    omega
set_option maxRecDepth 100000 in
set_option maxHeartbeats 8000000 in
theorem fields_of (l : List Dg.It) (A : Option Addr) (n c : Nat) (hl : l.length = n) (hn : n ≤ 1048576) (w : World) (hI : Its w w.heap.size A l) (F : List ByteArray) (hF : Dg.fieldsC l = F) (m : Nat) (hm : F.length = m) :
    Calls Tryz.prog 18 #[.agg #[.slice A n c]] w fun e w' => (∃ A' c', e = .returned (.slice A' m c') ∧ Strs w' w'.heap.size A' F) ∧ Below w.heap.size w w' := by
  have hx1 := Below.news (Below.refl w.heap.size w) (.cells #[.slice A n c] 24)
  have hrow := heap_alloc_new w (.cells #[.slice A n c] 24)
  have HL := hide hl; have HF := hide hF; have HM := hide hm; have HI := hide hI
  clear hl hF hI hm
  go_enter Tryz.func18, Tryz.ntmps18
  go_wp2
  go_loopw [3, 4] (fun vv iv wr => ∃ k : Nat, k ≤ n ∧ iv = .int .i64 (k : Int) ∧ Below w.heap.size w wr ∧ wr.heap[w.heap.size]? = some (.cells #[.slice A n c] 24 (0, 0)) ∧ OwnS wr (w.heap.size + 1) vv (Dg.fieldsC (l.take k))) (fun _ iv _ => n - (intOf iv).toNat)
  case atStart => exact ⟨0, by omega, rfl, hx1, hrow, OwnS.nil _ _⟩
  case round =>
    obtain ⟨k, hk, rfl, hb, hr, hO⟩ := hrel
    clear hrow hx1
    have hc := iCells0 hr
    by_cases hlt : k < n
    · have hkn : (k : Int) < (n : Int) := by omega
      have hk0 : (0 : Int) ≤ (k : Int) := by omega
      have hkl : k < l.length := by rw [HL.out]; exact hlt
      have hIr := HI.out.below hb
      obtain ⟨b, off, rfl⟩ := hIr.some hkl
      obtain ⟨x, hx⟩ : ∃ x, l[k] = x := ⟨_, rfl⟩
      obtain ⟨hbl, p0, p1, p2, p3, p4, p5, p6⟩ := hIr.cells hkl x hx
      have HX := hide hx
      have HN := hide (show (Dg.fieldsC (l.take k)).length = k * 6 by rw [fields_len, List.length_take]; omega)
      clear hx hIr
      have hx2 := Below.news (Below.refl wr.heap.size wr) (.cells #[.int .i64 x.kind, .string x.id, .string x.parent, .string x.number, .string x.north, .string x.south, .bool x.gone] 31)
      have hrx := heap_alloc_new wr (.cells #[.int .i64 x.kind, .string x.id, .string x.parent, .string x.number, .string x.north, .string x.south, .bool x.gone] 31)
      have hr1 := iNext hr hx2
      have hO1 := OwnS.below hO hx2
      have HBA := hide (bnext hb hx2)
      have HB1 := hide (show w.heap.size + 1 ≤ (wr.alloc (.cells #[.int .i64 x.kind, .string x.id, .string x.parent, .string x.number, .string x.north, .string x.south, .bool x.gone] 31)).heap.size by have := lt_of_block hr1; omega)
      go_upto_region 6 with (fail)
      generalize wr.alloc (.cells #[.int .i64 x.kind, .string x.id, .string x.parent, .string x.number, .string x.north, .string x.south, .bool x.gone] 31) = w1 at *
      obtain ⟨c0, c1, c2, c3, c4, c5, c6⟩ := iCells hrx
      clear p0 p1 p2 p3 p4 p5 p6 hc hr hx2 hrx hO hb
      by_cases kz : x.kind = 1
      · have HKW := hide (show Dg.kindW x = Dg.sD by unfold Dg.kindW; rw [if_pos kz])
        have kb : (x.kind == 1) = true := beq_iff_eq.2 kz
        clear kz
        cases gz : x.gone
        all_goals (rw [gz] at c6)
        · clear gz
          have LITX := hide (Below.news (Below.refl w1.heap.size w1) (.cells #[.string Dg.sD, .string x.id, .string x.parent, .string x.number, .string x.north, .string x.south] 9))
          have Strs6 : Hid (∀ (j : Nat) s, [Dg.sD, x.id, x.parent, x.number, x.north, x.south][j]? = some s → (w1.alloc (.cells #[.string Dg.sD, .string x.id, .string x.parent, .string x.number, .string x.north, .string x.south] 9)).cell? ((⟨w1.heap.size, 0, none⟩ : Addr).add j) = some (.string s)) := fun j s hj => by
            rw [addr_off, cell_of_row _ _ _ _ _ (0, 0) (heap_alloc_new w1 _), Nat.zero_add, ← Array.getElem?_toList]
            have h9 : ([Dg.sD, x.id, x.parent, x.number, x.north, x.south].map Value.string)[j]? = some (.string s) := by rw [List.getElem?_map, hj]; rfl
            exact h9
          go_wp2_with (at_builtin; refine step_ag rfl (.tmp 24) (.tmp 36) rfl (w.heap.size + 1) _ (Dg.fieldsC (l.take k)) [Dg.sD, x.id, x.parent, x.number, x.north, x.south] rfl (OwnS.below hO1 LITX.out) ⟨w1.heap.size, 0, none⟩ 6 6 rfl rfl (Strs6.out) (by rw [HN.out]; omega) (Nat.le_trans HB1.out LITX.out.size) ?_; intro v8 u8 hO8 hg8 hat8)
          have hb8 := grown_up (bnext HBA.out LITX.out) hg8 (fun g hg => by have := (OwnV.lt hO1 hg).1; omega)
          have hr8 := grown_row hg8 (iNext hr1 LITX.out) (fun g hg => by have := (OwnV.lt hO1 hg).1; omega)
          go_roundw
          case rel => exact ⟨k + 1, by omega, by go_num, hb8, hr8, by rw [fields_snoc hkl, HX.out, HKW.out]; exact hO8⟩
          case measure => simp [intOf]; omega
        · clear gz
          have LITX := hide (Below.news (Below.refl w1.heap.size w1) (.cells #[.string Dg.sD, .string x.id, .string x.parent, .string x.number, .string x.north, .string x.south] 9))
          have Strs6 : Hid (∀ (j : Nat) s, [Dg.sD, x.id, x.parent, x.number, x.north, x.south][j]? = some s → (w1.alloc (.cells #[.string Dg.sD, .string x.id, .string x.parent, .string x.number, .string x.north, .string x.south] 9)).cell? ((⟨w1.heap.size, 0, none⟩ : Addr).add j) = some (.string s)) := fun j s hj => by
            rw [addr_off, cell_of_row _ _ _ _ _ (0, 0) (heap_alloc_new w1 _), Nat.zero_add, ← Array.getElem?_toList]
            have h9 : ([Dg.sD, x.id, x.parent, x.number, x.north, x.south].map Value.string)[j]? = some (.string s) := by rw [List.getElem?_map, hj]; rfl
            exact h9
          go_wp2_with (at_builtin; refine step_ag rfl (.tmp 24) (.tmp 36) rfl (w.heap.size + 1) _ (Dg.fieldsC (l.take k)) [Dg.sD, x.id, x.parent, x.number, x.north, x.south] rfl (OwnS.below hO1 LITX.out) ⟨w1.heap.size, 0, none⟩ 6 6 rfl rfl (Strs6.out) (by rw [HN.out]; omega) (Nat.le_trans HB1.out LITX.out.size) ?_; intro v8 u8 hO8 hg8 hat8)
          have hb8 := grown_up (bnext HBA.out LITX.out) hg8 (fun g hg => by have := (OwnV.lt hO1 hg).1; omega)
          have hr8 := grown_row hg8 (iNext hr1 LITX.out) (fun g hg => by have := (OwnV.lt hO1 hg).1; omega)
          go_roundw
          case rel => exact ⟨k + 1, by omega, by go_num, hb8, hr8, by rw [fields_snoc hkl, HX.out, HKW.out]; exact hO8⟩
          case measure => simp [intOf]; omega
      · have kb : (x.kind == 1) = false := beq_eq_false_iff_ne.2 kz
        cases gz : x.gone
        all_goals (rw [gz] at c6)
        · have HKW := hide (show Dg.kindW x = Dg.sA by unfold Dg.kindW; rw [if_neg kz, gz]; rfl)
          clear gz kz
          have LITX := hide (Below.news (Below.refl w1.heap.size w1) (.cells #[.string Dg.sA, .string x.id, .string x.parent, .string x.number, .string x.north, .string x.south] 9))
          have Strs6 : Hid (∀ (j : Nat) s, [Dg.sA, x.id, x.parent, x.number, x.north, x.south][j]? = some s → (w1.alloc (.cells #[.string Dg.sA, .string x.id, .string x.parent, .string x.number, .string x.north, .string x.south] 9)).cell? ((⟨w1.heap.size, 0, none⟩ : Addr).add j) = some (.string s)) := fun j s hj => by
            rw [addr_off, cell_of_row _ _ _ _ _ (0, 0) (heap_alloc_new w1 _), Nat.zero_add, ← Array.getElem?_toList]
            have h9 : ([Dg.sA, x.id, x.parent, x.number, x.north, x.south].map Value.string)[j]? = some (.string s) := by rw [List.getElem?_map, hj]; rfl
            exact h9
          go_wp2_with (at_builtin; refine step_ag rfl (.tmp 24) (.tmp 36) rfl (w.heap.size + 1) _ (Dg.fieldsC (l.take k)) [Dg.sA, x.id, x.parent, x.number, x.north, x.south] rfl (OwnS.below hO1 LITX.out) ⟨w1.heap.size, 0, none⟩ 6 6 rfl rfl (Strs6.out) (by rw [HN.out]; omega) (Nat.le_trans HB1.out LITX.out.size) ?_; intro v8 u8 hO8 hg8 hat8)
          have hb8 := grown_up (bnext HBA.out LITX.out) hg8 (fun g hg => by have := (OwnV.lt hO1 hg).1; omega)
          have hr8 := grown_row hg8 (iNext hr1 LITX.out) (fun g hg => by have := (OwnV.lt hO1 hg).1; omega)
          go_roundw
          case rel => exact ⟨k + 1, by omega, by go_num, hb8, hr8, by rw [fields_snoc hkl, HX.out, HKW.out]; exact hO8⟩
          case measure => simp [intOf]; omega
        · have HKW := hide (show Dg.kindW x = Dg.sG by unfold Dg.kindW; rw [if_neg kz, gz]; rfl)
          clear gz kz
          have LITX := hide (Below.news (Below.refl w1.heap.size w1) (.cells #[.string Dg.sG, .string x.id, .string x.parent, .string x.number, .string x.north, .string x.south] 9))
          have Strs6 : Hid (∀ (j : Nat) s, [Dg.sG, x.id, x.parent, x.number, x.north, x.south][j]? = some s → (w1.alloc (.cells #[.string Dg.sG, .string x.id, .string x.parent, .string x.number, .string x.north, .string x.south] 9)).cell? ((⟨w1.heap.size, 0, none⟩ : Addr).add j) = some (.string s)) := fun j s hj => by
            rw [addr_off, cell_of_row _ _ _ _ _ (0, 0) (heap_alloc_new w1 _), Nat.zero_add, ← Array.getElem?_toList]
            have h9 : ([Dg.sG, x.id, x.parent, x.number, x.north, x.south].map Value.string)[j]? = some (.string s) := by rw [List.getElem?_map, hj]; rfl
            exact h9
          go_wp2_with (at_builtin; refine step_ag rfl (.tmp 24) (.tmp 36) rfl (w.heap.size + 1) _ (Dg.fieldsC (l.take k)) [Dg.sG, x.id, x.parent, x.number, x.north, x.south] rfl (OwnS.below hO1 LITX.out) ⟨w1.heap.size, 0, none⟩ 6 6 rfl rfl (Strs6.out) (by rw [HN.out]; omega) (Nat.le_trans HB1.out LITX.out.size) ?_; intro v8 u8 hO8 hg8 hat8)
          have hb8 := grown_up (bnext HBA.out LITX.out) hg8 (fun g hg => by have := (OwnV.lt hO1 hg).1; omega)
          have hr8 := grown_row hg8 (iNext hr1 LITX.out) (fun g hg => by have := (OwnV.lt hO1 hg).1; omega)
          go_roundw
          case rel => exact ⟨k + 1, by omega, by go_num, hb8, hr8, by rw [fields_snoc hkl, HX.out, HKW.out]; exact hO8⟩
          case measure => simp [intOf]; omega
    · obtain rfl : k = n := by omega
      have HE := hide (show l.take k = l by rw [← HL.out, List.take_length])
      rw [HE.out, HF.out] at hO
      obtain ⟨A', c', rfl, _, hS⟩ := hO.strs
      rw [HM.out]
      go_wp2
      go_ret
      exact ⟨⟨A', c', rfl, hS⟩, hb⟩
end Go.Proofs.YtpldhempbdionaaGreatDoor
/- Validity as the reference has it: ancestors by going up; it is the walk's. In plain Lean, no program in sight. -/
namespace Go.Proofs.YtpldhempbdionaaGreatDoor.Dg
open Go
/-- What is open: each open division is an item that came, whose ancestors are those open before it. -/
def StackOk (l : List It) (vs : List (List ByteArray)) (k : Nat) (op : List ByteArray) : Prop :=
  ∀ (t : Nat) (d : ByteArray), op[t]? = some d → ∃ (j : Nat) (x : It), j < k ∧ l[j]? = some x ∧ x.id = d ∧ x.kind = 1 ∧ vs[j]? = some (op.take t)
theorem stack_take {l : List It} {vs : List (List ByteArray)} {k : Nat} {op : List ByteArray} (h : StackOk l vs k op) (n : Nat) : StackOk l vs k (op.take n) := fun t d ht => by
  have htn : t < n := by
    have := (List.getElem?_eq_some_iff.1 ht).1
    rw [List.length_take] at this
    omega
  rw [List.getElem?_take_of_lt htn] at ht
  obtain ⟨j, x, h1, h2, h3, h4, h5⟩ := h t d ht
  exact ⟨j, x, h1, h2, h3, h4, by rw [List.take_take, Nat.min_eq_left (by omega)]; exact h5⟩
theorem stack_more {l : List It} {vs vs' : List (List ByteArray)} {k : Nat} {op : List ByteArray} (h : StackOk l vs k op) (hv : ∀ j, j < k → vs'[j]? = vs[j]?) : StackOk l vs' (k + 1) op := fun t d ht => by
  obtain ⟨j, x, h1, h2, h3, h4, h5⟩ := h t d ht
  exact ⟨j, x, by omega, h2, h3, h4, by rw [hv j h1]; exact h5⟩
theorem walk_stack {l : List It} : ∀ {k : Nat} (_ : k ≤ l.length) {vs : List (List ByteArray)} {s : Wk}, walkTo l k = some (vs, s) → StackOk l vs k s.op ∧ ∀ j o, vs[j]? = some o → StackOk l vs j o
  | 0, _, vs, s, h => by cases h; exact ⟨fun t d ht => by simp at ht, fun j o ho => by simp at ho⟩
  | k + 1, hk, vs, s, h => by
    have hk' : k < l.length := by omega
    obtain ⟨vs0, s0, o, h1, h2, rfl⟩ := walk_step hk' h
    obtain ⟨a1, a2⟩ := walk_stack (by omega) h1
    have hl := walk_len (by omega) h1
    obtain ⟨_, _, k', _, b4, _, b6⟩ := stepI_some h2
    have hv : ∀ j, j < k → (vs0 ++ [o])[j]? = vs0[j]? := fun j hj => List.getElem?_append_left (by omega)
    have ho : StackOk l (vs0 ++ [o]) (k + 1) o := by rw [b4]; exact stack_more (stack_take a1 k') (fun j hj => by rw [← b4]; exact hv j hj)
    refine ⟨?_, fun j o' ho' => ?_⟩
    · rw [b6]
      split
      · rename_i hkind
        intro t d ht
        rcases Nat.lt_or_ge t o.length with h3 | h3
        · rw [List.getElem?_append_left h3] at ht
          obtain ⟨j, x, c1, c2, c3, c4, c5⟩ := ho t d ht
          exact ⟨j, x, c1, c2, c3, c4, by rw [List.take_append_of_le_length (by omega)]; exact c5⟩
        · have h4 : t = o.length := by
            have := (List.getElem?_eq_some_iff.1 ht).1
            rw [List.length_append, List.length_singleton] at this
            omega
          subst h4
          rw [List.getElem?_append_right (Nat.le_refl _), Nat.sub_self] at ht
          obtain rfl : l[k].id = d := by simpa using ht
          refine ⟨k, l[k], by omega, List.getElem?_eq_getElem hk', rfl, hkind, ?_⟩
          rw [List.getElem?_append_right (by omega), hl, Nat.sub_self, List.take_left]
          rfl
      · exact ho
    · rcases Nat.lt_or_ge j k with h3 | h3
      · rw [List.getElem?_append_left (by omega)] at ho'
        have h5 := a2 j o' ho'
        intro t d ht
        obtain ⟨i, x, c1, c2, c3, c4, c5⟩ := h5 t d ht
        exact ⟨i, x, c1, c2, c3, c4, by rw [hv i (by omega)]; exact c5⟩
      · have h4 : j = k := by
          have := (List.getElem?_eq_some_iff.1 ho').1
          rw [List.length_append, List.length_singleton] at this
          omega
        subst h4
        rw [List.getElem?_append_right (by omega), hl, Nat.sub_self] at ho'
        obtain rfl : o = o' := by simpa using ho'
        rw [b4]
        intro t d ht
        obtain ⟨i, x, c1, c2, c3, c4, c5⟩ := stack_take a1 k' t d ht
        exact ⟨i, x, c1, c2, c3, c4, by rw [← b4, hv i c1]; rw [← b4] at c5; exact c5⟩
/-- The parent's ancestors and the parent: what is open at a visit. -/
theorem visit_up {l : List It} {n : Nat} (hn : n ≤ l.length) {vs : List (List ByteArray)} {s : Wk} (h : walkTo l n = some (vs, s)) {k : Nat} (hk : k < n) : (l[k].parent = nil8 ∧ vs[k]? = some []) ∨ (l[k].parent ≠ nil8 ∧ ∃ (j : Nat) (x : It) (o : List ByteArray), j < k ∧ l[j]? = some x ∧ x.id = l[k].parent ∧ x.kind = 1 ∧ vs[j]? = some o ∧ vs[k]? = some (o ++ [l[k].parent])) := by
  obtain ⟨s1, h1⟩ := walk_le hn h (k + 1) (by omega)
  obtain ⟨vs0, s0, o0, w0, st0, e0⟩ := walk_step (l := l) (k := k) (by omega) h1
  have l0 := walk_len (by omega) w0
  have a0 : (vs.take (k + 1))[k]? = some o0 := by rw [e0, List.getElem?_append_right (by omega), l0]; simp
  rw [List.getElem?_take_of_lt (by omega)] at a0
  obtain ⟨hs, _⟩ := walk_stack (by omega) w0
  obtain ⟨_, _, j, c2, c3, _, _⟩ := stepI_some st0
  unfold kOf at c2
  by_cases hp : l[k].parent = nil8
  · rw [if_pos hp] at c2
    injection c2 with c2
    refine Or.inl ⟨hp, ?_⟩
    rw [a0, c3, ← c2]; rfl
  · rw [if_neg hp] at c2
    split at c2
    · rename_i hin
      injection c2 with c2
      have hf : (s0.op.findIdx fun d => decide (d = l[k].parent)) < s0.op.length := List.findIdx_lt_length_of_exists ⟨_, (inB_iff _ _).1 hin, decide_eq_true rfl⟩
      have hg2 := of_decide_eq_true (List.findIdx_getElem (w := hf))
      generalize (s0.op.findIdx fun d => decide (d = l[k].parent)) = t at *
      obtain ⟨i, x, d1, d2, d3, d4, d5⟩ := hs t l[k].parent (by rw [List.getElem?_eq_getElem hf, hg2])
      refine Or.inr ⟨hp, i, x, s0.op.take t, d1, d2, d3, d4, ?_, ?_⟩
      · have : (vs.take (k + 1))[i]? = some (s0.op.take t) := by rw [e0, List.getElem?_append_left (by omega)]; exact d5
        rw [List.getElem?_take_of_lt (by omega)] at this
        exact this
      · rw [a0, c3, ← c2, List.take_succ_eq_append_getElem hf, hg2]
    · cases c2
/-- The item with a name. -/
def findI (l : List It) (d : ByteArray) : Option It := l.find? fun x => decide (x.id = d)
/-- Going up from a name, the nearest one first. -/
def chainR (l : List It) : Nat → ByteArray → List ByteArray
  | 0, _ => []
  | f + 1, d => if d = nil8 then [] else d :: (match findI l d with | none => [] | some x => chainR l f x.parent)
theorem find_at {l : List It} {n : Nat} (hn : n ≤ l.length) {vs : List (List ByteArray)} {s : Wk} (h : walkTo l n = some (vs, s)) {k : Nat} (hk : k < n) : findI l l[k].id = some l[k] := by
  obtain ⟨_, _, _, h2, _⟩ := visit_at hn h hk
  unfold findI
  have hsp : l = l.take k ++ l[k] :: l.drop (k + 1) := by
    rw [← List.drop_eq_getElem_cons (by omega), List.take_append_drop]
  conv => lhs; arg 2; rw [hsp]
  rw [List.find?_append]
  have hnone : (l.take k).find? (fun x => decide (x.id = l[k].id)) = none := by
    rw [List.find?_eq_none]
    intro x hx hd
    exact h2 (List.mem_map.2 ⟨x, hx, of_decide_eq_true hd⟩)
  rw [hnone, List.find?_cons_of_pos (by simp)]
  rfl
/-- Going up finds what is open. -/
theorem chain_eq {l : List It} {n : Nat} (hn : n ≤ l.length) {vs : List (List ByteArray)} {s : Wk} (h : walkTo l n = some (vs, s)) : ∀ (k : Nat) (_ : k < n) (f : Nat), k < f → ∀ o, vs[k]? = some o → chainR l f l[k].parent = o.reverse := by
  intro k
  induction k using Nat.strongRecOn with
  | _ k ih =>
    intro hk f hf o ho
    obtain ⟨f, rfl⟩ : ∃ g, f = g + 1 := ⟨f - 1, by omega⟩
    rcases visit_up hn h hk with ⟨hp, hv⟩ | ⟨hp, j, x, o1, hj, hx, hid, _, hv1, hv⟩
    · rw [ho] at hv
      injection hv with hv
      rw [chainR, if_pos hp, hv]; rfl
    · rw [ho] at hv
      injection hv with hv
      obtain ⟨hjl, hx2⟩ := List.getElem?_eq_some_iff.1 hx
      have hfi := find_at hn h (k := j) (by omega)
      rw [hx2, hid] at hfi
      have := ih j hj (by omega) f (by omega) o1 hv1
      rw [hx2] at this
      rw [chainR, if_neg hp, hfi, hv, List.reverse_append]
      simp only
      rw [this]
      rfl
end Go.Proofs.YtpldhempbdionaaGreatDoor.Dg
/- Chain of the reference. No conditions but those that each theorem states. -/
namespace Go.Proofs.YtpldhempbdionaaGreatDoor
open Go Go.RowKit Go.Sort Go.Maps
/-- A code in its variable, and its items. -/
structure CR (g : Nat) (A : Option Addr) (n c : Nat) (l : List Dg.It) (X : World) : Prop where
  row : X.heap[g]? = some (.cells #[.slice A n c] 24 (0, 0))
  its : Its X X.heap.size A l
theorem CR.below {g : Nat} {A : Option Addr} {n c : Nat} {l : List Dg.It} {X X' : World} (h : CR g A n c l X) (hb : Below X.heap.size X X') : CR g A n c l X' := ⟨iNext h.row hb, h.its.keep hb⟩
theorem findX_walk {l : List Dg.It} {N : Nat} (hN : N ≤ l.length) {vs : List (List ByteArray)} {s : Dg.Wk} (hW : Dg.walkTo l N = some (vs, s)) {j : Nat} (hj : j < N) : findX l l[j].id = (j : Int) := by
  obtain ⟨_, _, _, h2, _⟩ := Dg.visit_at hN hW hj
  exact findX_at (by omega) rfl fun y hy e => h2 (List.mem_map.2 ⟨y, hy, e⟩)
set_option maxRecDepth 100000 in
set_option maxHeartbeats 8000000 in
theorem rchainC_of (l : List Dg.It) (A : Option Addr) (n c : Nat) (hl : l.length = n) (hn : n ≤ 1048576) (w : World) (hI : Its w w.heap.size A l) (N : Nat) (hN : N ≤ l.length) (vs : List (List ByteArray)) (s : Dg.Wk) (hW : Dg.walkTo l N = some (vs, s)) (i : Nat) (hi : i < N) (o : List ByteArray) (ho : vs[i]? = some o) (m : Nat) (hm : o.length = m) (hmn : m ≤ n) :
    Calls Tryz.prog 67 #[.agg #[.slice A n c], .int .i64 (i : Int)] w fun e w' => (∃ A' c', e = .returned (.slice A' m c') ∧ Strs w' w'.heap.size A' o.reverse) ∧ Below w.heap.size w w' := by
  have hx1 := Below.news (Below.refl w.heap.size w) (.cells #[.slice A n c] 24)
  have hS1 : CR w.heap.size A n c l (w.alloc (.cells #[.slice A n c] 24)) := ⟨heap_alloc_new w _, hI.keep hx1⟩
  have HI := hide hI
  have HL := hide hl; have HW := hide hW; have HO := hide ho; have HM := hide hm
  clear hl hI hW ho hm
  have hmx : Tryz.prog.follows .mixedOrders = true := by kernel_rfl
  go_enter Tryz.func67, Tryz.ntmps67
  have hin : (i : Int) < (n : Int) := by have := HL.out; omega
  have hi0 : (0 : Int) ≤ (i : Int) := by omega
  have hil : i < l.length := by omega
  obtain ⟨b, off, rfl⟩ := hS1.its.some hil
  obtain ⟨x, hx⟩ : ∃ x, l[i] = x := ⟨_, rfl⟩
  have hc := iCells0 hS1.row
  obtain ⟨_, p0, p1, p2, p3, p4, p5, p6⟩ := hS1.its.cells hil x hx
  clear p0 p1 p3 p4 p5 p6
  go_wp2
  go_loopw [5, 6] (fun v d wr => ∃ (k : Nat) (q o' : List ByteArray) (x : Dg.It), k < N ∧ l[k]? = some x ∧ d = .string x.parent ∧ Hid (vs[k]? = some o' ∧ o.reverse = q ++ o'.reverse) ∧ OwnS wr (w.heap.size + 1) v q ∧ CR w.heap.size (some ⟨b, off, none⟩) n c l wr ∧ Below w.heap.size w wr) (fun v _ _ => m - sliceLen v)
  case atStart => exact ⟨i, [], o, x, hi, by rw [List.getElem?_eq_getElem hil, hx], rfl, ⟨HO.out, rfl⟩, OwnS.nil _ _, hS1, hx1⟩
  case round =>
    clear hS1 hx1 hc p2 hx
    obtain ⟨k, q, o', y, hk, hy, rfl, hq, hO, hS, hb⟩ := hrel
    obtain ⟨A5, c5, rfl, _, hS5⟩ := hO.strs
    have hkl : k < l.length := by omega
    have hyk : l[k] = y := by rw [List.getElem?_eq_getElem hkl] at hy; injection hy
    have hpe : y.parent.toList.isEmpty = decide (y.parent = Dg.nil8) := (emp_iff _).symm
    rcases Dg.visit_up hN HW.out hk with ⟨hp, hv⟩ | ⟨hp, j, z, o1, hj, hz, hid, _, hv1, hv⟩
    · rw [hyk] at hp
      have ho0 : o' = [] := by rw [hq.out.1] at hv; injection hv
      have hqo : o.reverse = q := by have h := hq.out.2; rw [ho0] at h; simpa using h
      have hqm : q.length = m := by rw [← hqo, List.length_reverse, HM.out]
      rw [decide_eq_true hp] at hpe
      rw [← hqo] at hS5
      rw [hqm]
      have HS5 := hide hS5
      clear hp hv ho0 hqo hyk hy hS5 hO
      go_wp2
      go_ret
      exact ⟨⟨A5, c5, rfl, HS5.out⟩, hb⟩
    · rw [hyk] at hp hid hv
      rw [decide_eq_false hp] at hpe
      have hq1 : o.reverse = (q ++ [y.parent]) ++ o1.reverse := by
        have h := hq.out.2
        rw [hq.out.1] at hv
        injection hv with hv
        rw [hv, List.reverse_append] at h
        rw [h, List.append_assoc]
        rfl
      have hlt : q.length + 1 ≤ m := by
        have h := congrArg List.length hq1
        rw [List.length_reverse, HM.out, List.length_append, List.length_append] at h
        simp only [List.length_singleton] at h
        omega
      have hjl : j < l.length := by omega
      have hzj : l[j] = z := by rw [List.getElem?_eq_getElem hjl] at hz; injection hz
      have hfx : findX l y.parent = (j : Int) := by rw [← hid, ← hzj]; exact findX_walk hN HW.out (by omega)
      have HQ := hide (And.intro hv1 hq1); have HZ := hide hz; have HF := hide hfx; have HZJ := hide hzj
      clear hp hv hid hv1 hq1 hyk hy hz hfx hzj hq
      have LITX := hide (Below.news (Below.refl wr.heap.size wr) (.cells #[.string y.parent] 9))
      have Strs1 : Hid (∀ (j : Nat) s, [y.parent][j]? = some s → (wr.alloc (.cells #[.string y.parent] 9)).cell? ((⟨wr.heap.size, 0, none⟩ : Addr).add j) = some (.string s)) := fun j s hj => by
        rw [addr_off, cell_of_row _ _ _ _ _ (0, 0) (heap_alloc_new wr _), Nat.zero_add, ← Array.getElem?_toList]
        have h9 : ([y.parent].map Value.string)[j]? = some (.string s) := by rw [List.getElem?_map, hj]; rfl
        exact h9
      have HB1 := hide (show w.heap.size + 1 ≤ wr.heap.size by have := lt_of_block hS.row; omega)
      have HBW := hide hb
      go_upto_region 5 with (at_builtin; refine step_ag rfl (.tmp 15) (.tmp 17) rfl (w.heap.size + 1) (.slice A5 q.length c5) q [y.parent] rfl (OwnS.below hO LITX.out) ⟨wr.heap.size, 0, none⟩ 1 1 rfl rfl (Strs1.out) (by omega) (Nat.le_trans HB1.out LITX.out.size) ?_; intro v8 u8 hO8 hg8 hat8; obtain ⟨A8, c8, e8, _, _⟩ := hO8.strs; subst e8)
      have hb8 := grown_up (bnext HBW.out LITX.out) hg8 (fun g hg => by have := (OwnV.lt hO hg).1; omega)
      have hr8 := grown_row hg8 (iNext hS.row LITX.out) (fun g hg => by have := (OwnV.lt hO hg).1; omega)
      have hS8 : CR w.heap.size (some ⟨b, off, none⟩) n c l u8 := ⟨hr8, (HI.out.below hb8).more hb8.size⟩
      clear hr8 hg8 hat8 hO hb hS HB1 LITX Strs1
      try clear hc1
      try clear hc2
      refine wp_region_noPanic ?_
      refine wp_region_L (CR w.heap.size (some ⟨b, off, none⟩) n c l) 9 hmx ?_
      have hdr := (Below.refl u8.heap.size u8).drew
      have hS9 : (CR w.heap.size (some ⟨b, off, none⟩) n c l) u8.drew := hS8.below hdr
      have hb9 := bnext hb8 hdr
      have hO9 := OwnS.below hO8 hdr
      clear hO8 hdr hS8 hb8
      generalize u8.drew = w9 at *
      have hj0 : (0 : Int) ≤ (j : Int) := by omega
      have hjn : (j : Int) < (n : Int) := by have := HL.out; omega
      refine wpAnyL_take (i := 0) (f0 := 11) (v := ?_) rfl (by decide +kernel) (by decide +kernel) (by decide +kernel) (by decide +kernel) (by decide +kernel) (fun _ _ _ h => h) (Or.inl ⟨by rfl, ?_⟩) hS9 ?_
      rotate_left
      · intro wS hS; go_simp; (try with_reducible rfl)
      simp only [Act.put, List.getElem_toArray, List.getElem_cons_zero, List.setIfInBounds_toArray, List.set_cons_succ, List.set_cons_zero]
      refine wpAnyL_take (i := 1) (f0 := 11) (v := ?_) rfl (by decide +kernel) (by decide +kernel) (by decide +kernel) (by decide +kernel) (by decide +kernel) (fun _ _ _ h => h) (Or.inl ⟨by rfl, ?_⟩) hS9 ?_
      rotate_left
      · intro wS hS; have c9 := iCells0 hS.row; go_simp; (try with_reducible rfl)
      simp only [Act.put, List.getElem_toArray, List.getElem_cons_succ, List.getElem_cons_zero, List.setIfInBounds_toArray, List.set_cons_succ, List.set_cons_zero]
      refine wpAnyL_take (i := 2) (f0 := 11) (v := ?_) rfl (by decide +kernel) (by decide +kernel) (by decide +kernel) (by decide +kernel) (by decide +kernel) (fun _ _ _ h => h) (Or.inl ⟨by rfl, ?_⟩) hS9 ?_
      rotate_left
      · intro wS hS; have c9 := iCells0 hS.row; go_simp; (try with_reducible rfl)
      simp only [Act.put, List.getElem_toArray, List.getElem_cons_succ, List.getElem_cons_zero, List.setIfInBounds_toArray, List.set_cons_succ, List.set_cons_zero]
      refine wpAnyL_take (i := 3) (f0 := 11) (v := ?_) rfl (by decide +kernel) (by decide +kernel) (by decide +kernel) (by decide +kernel) (by decide +kernel) (fun _ _ _ h => h) (Or.inl ⟨by rfl, ?_⟩) hS9 ?_
      rotate_left
      · intro wS hS; go_simp; (try with_reducible rfl)
      simp only [Act.put, List.getElem_toArray, List.getElem_cons_succ, List.getElem_cons_zero, List.setIfInBounds_toArray, List.set_cons_succ, List.set_cons_zero]
      refine wpAnyL_one (i := 4) (by decide +kernel) (by rfl) (fun K hK => ?_)
      rw [if_pos (by rfl)]
      go_simp
      refine (rfind_of l (some ⟨b, off, none⟩) n c HL.out (by omega) y.parent w9 hS9.its (j : Int) HF.out).mono ?_
      rintro e w10 ⟨rfl, hx10⟩
      have hS10 : (CR w.heap.size (some ⟨b, off, none⟩) n c l) w10 := hS9.below hx10
      have hb10 := bnext hb9 hx10
      have hO10 := OwnS.below hO9 hx10
      clear hO9
      refine hK.out _ _ (Or.inr hS10) ?_
      clear hK K hS9 hb9 hx10
      try simp only [Act.put, List.getElem_toArray, List.getElem_cons_succ, List.getElem_cons_zero, List.setIfInBounds_toArray, List.set_cons_succ, List.set_cons_zero]
      refine wpAnyL_take (i := 5) (f0 := 11) (v := ?_) rfl (by decide +kernel) (by decide +kernel) (by decide +kernel) (by decide +kernel) (by decide +kernel) (fun _ _ _ h => h) (Or.inl ⟨by rfl, ?_⟩) hS10 ?_
      rotate_left
      · intro wS hS; go_simp; (try with_reducible rfl)
      simp only [Act.put, List.getElem_toArray, List.getElem_cons_succ, List.getElem_cons_zero, List.setIfInBounds_toArray, List.set_cons_succ, List.set_cons_zero]
      refine wpAnyL_take (i := 6) (f0 := 11) (v := ?_) rfl (by decide +kernel) (by decide +kernel) (by decide +kernel) (by decide +kernel) (by decide +kernel) (fun _ _ _ h => h) (Or.inl ⟨by rfl, ?_⟩) hS10 ?_
      rotate_left
      · intro wS hS; go_simp; (try with_reducible rfl)
      simp only [Act.put, List.getElem_toArray, List.getElem_cons_succ, List.getElem_cons_zero, List.setIfInBounds_toArray, List.set_cons_succ, List.set_cons_zero]
      refine wpAnyL_take (i := 7) (f0 := 11) (v := ?_) rfl (by decide +kernel) (by decide +kernel) (by decide +kernel) (by decide +kernel) (by decide +kernel) (fun _ _ _ h => h) (Or.inl ⟨by rfl, ?_⟩) hS10 ?_
      rotate_left
      · intro wS hS; obtain ⟨_, p0, p1, p2, p3, p4, p5, p6⟩ := hS.its.cells (List.getElem?_eq_some_iff.1 HZ.out).1 z HZJ.out; go_simp; (try with_reducible rfl)
      simp only [Act.put, List.getElem_toArray, List.getElem_cons_succ, List.getElem_cons_zero, List.setIfInBounds_toArray, List.set_cons_succ, List.set_cons_zero]
      refine wpAnyL_take (i := 8) (f0 := 11) (v := ?_) rfl (by decide +kernel) (by decide +kernel) (by decide +kernel) (by decide +kernel) (by decide +kernel) (fun _ _ _ h => h) (Or.inl ⟨by rfl, ?_⟩) hS10 ?_
      rotate_left
      · intro wS hS; go_simp; (try with_reducible rfl)
      simp only [Act.put, List.getElem_toArray, List.getElem_cons_succ, List.getElem_cons_zero, List.setIfInBounds_toArray, List.set_cons_succ, List.set_cons_zero]
      refine wpAnyL_done (by decide +kernel) ?_ _
      refine NoPanic.normal ?_
      go_wp2
      go_roundw
      case rel => exact ⟨j, q ++ [y.parent], o1, z, by omega, HZ.out, rfl, ⟨HQ.out.1, HQ.out.2⟩, by rw [List.length_append] at hO10; exact hO10, hS10, hb10⟩
      case measure => simp [sliceLen]; omega
end Go.Proofs.YtpldhempbdionaaGreatDoor
/- Validity as the reference has it equals the walk's, in plain Lean. No program in sight. -/
namespace Go.Proofs.YtpldhempbdionaaGreatDoor.Dg
open Go
/-- The open divisions before the item behind item k. -/
theorem op_behind {l : List It} {k : Nat} (hk : k < l.length) {vs : List (List ByteArray)} {s : Wk} (h : walkTo l (k + 1) = some (vs, s)) : ∃ o, vs[k]? = some o ∧ s.op = if l[k].kind = 1 then o ++ [l[k].id] else o := by
  obtain ⟨vs0, s0, o, w0, st, rfl⟩ := walk_step hk h
  have hl := walk_len (by omega) w0
  obtain ⟨_, _, _, _, _, _, c6⟩ := stepI_some st
  exact ⟨o, by rw [List.getElem?_append_right (by omega), hl, Nat.sub_self]; rfl, c6⟩
/-- Whether an item stands at a right place, by the reference; f is how far it goes up at most. -/
def placeR (l : List It) (f i : Nat) (p : ByteArray) : Bool :=
  if p = nil8 then true else match i with
    | 0 => false
    | j + 1 => match l[j]? with
      | none => false
      | some x => (decide (x.id = p) || inB (chainR l f x.parent) p) && (match findI l p with | none => false | some y => decide (y.kind = 1))
theorem place_eq {l : List It} {i : Nat} (hi : i ≤ l.length) {vs : List (List ByteArray)} {s : Wk} (h : walkTo l i = some (vs, s)) (f : Nat) (hf : i < f) (p : ByteArray) : placeR l f i p = (kOf s.op p).isSome := by
  unfold placeR kOf
  by_cases hp : p = nil8
  · rw [if_pos hp, if_pos hp]; rfl
  · rw [if_neg hp, if_neg hp]
    cases i with
    | zero =>
      cases h
      simp [inB]
    | succ j =>
      have hj : j < l.length := by omega
      obtain ⟨o, ho, hop⟩ := op_behind hj h
      have hch := chain_eq (by omega) h j (by omega) f (by omega) o ho
      obtain ⟨hst, _⟩ := walk_stack (by omega) h
      simp only [List.getElem?_eq_getElem hj]
      rw [hch]
      have hrev : inB o.reverse p = inB o p := by
        cases hb : inB o p with
        | true => exact (inB_iff _ _).2 (List.mem_reverse.2 ((inB_iff _ _).1 hb))
        | false => exact (inB_no _ _).2 fun hm => (inB_no _ _).1 hb (List.mem_reverse.1 hm)
      rw [hrev]
      -- what is found for a name that is open
      have hfo : ∀ d, d ∈ s.op → ∃ y, findI l d = some y ∧ y.kind = 1 := fun d hd => by
        obtain ⟨t, ht, rfl⟩ := List.mem_iff_getElem.1 hd
        obtain ⟨k, x, c1, c2, c3, c4, _⟩ := hst t s.op[t] (List.getElem?_eq_getElem ht)
        obtain ⟨hkl, c2'⟩ := List.getElem?_eq_some_iff.1 c2
        have := find_at (by omega) h (k := k) (by omega)
        rw [c2', c3] at this
        exact ⟨x, this, c4⟩
      by_cases hm : p ∈ s.op
      · obtain ⟨y, hy, hk⟩ := hfo p hm
        rw [if_pos ((inB_iff _ _).2 hm), hy]
        simp only [hk, decide_true, Bool.and_true, Option.isSome_some]
        rw [hop] at hm
        split at hm
        · rcases List.mem_append.1 hm with h1 | h1
          · rw [(inB_iff _ _).2 h1, Bool.or_true]
          · rw [decide_eq_true (List.mem_singleton.1 h1).symm, Bool.true_or]
        · rw [(inB_iff _ _).2 hm, Bool.or_true]
      · rw [if_neg (by rw [(inB_no _ _).2 hm]; decide)]
        simp only [Option.isSome_none]
        rw [hop] at hm
        have hno : inB o p = false := (inB_no _ _).2 fun h1 => hm (by split <;> first | exact List.mem_append_left _ h1 | exact h1)
        rw [hno, Bool.or_false]
        by_cases hid : l[j].id = p
        · have hk : l[j].kind ≠ 1 := fun e => hm (by rw [if_pos e, hid]; simp)
          have := find_at (by omega) h (k := j) (by omega)
          rw [hid] at this
          rw [this]
          simp [hk]
        · rw [decide_eq_false hid, Bool.false_and]
/-- An item, by the reference. -/
def okR (l : List It) (f i : Nat) (x : It) : Bool :=
  isNameB x.id && (!(inB ((l.take i).map It.id) x.id) && (isNumB x.number && (!(decide (x.kind = 1) && (!(decide (x.north = nil8)) || (!(decide (x.south = nil8)) || x.gone))) && ((decide (x.kind = 1) || decide (x.kind = 2)) && (decide (x.north.size ≤ 400) && (decide (x.south.size ≤ 400) && placeR l f i x.parent))))))
theorem proper_ref (x : It) : properI x = (isNameB x.id && (isNumB x.number && (!(decide (x.kind = 1) && (!(decide (x.north = nil8)) || (!(decide (x.south = nil8)) || x.gone))) && ((decide (x.kind = 1) || decide (x.kind = 2)) && (decide (x.north.size ≤ 400) && decide (x.south.size ≤ 400)))))) := by
  unfold properI
  by_cases h1 : x.kind = 1
  · rw [if_pos h1]
    by_cases h3 : x.north = nil8
    · by_cases h4 : x.south = nil8
      · have z3 : x.north.size ≤ 400 := by rw [h3]; decide
        have z4 : x.south.size ≤ 400 := by rw [h4]; decide
        rw [decide_eq_true h3, decide_eq_true h4, decide_eq_true h1, decide_eq_true z3, decide_eq_true z4]
        cases isNumB x.number <;> cases isNameB x.id <;> cases x.gone <;> rfl
      · rw [decide_eq_true h3, decide_eq_false h4, decide_eq_true h1]
        cases isNumB x.number <;> cases isNameB x.id <;> simp
    · rw [decide_eq_false h3, decide_eq_true h1]
      cases isNumB x.number <;> cases isNameB x.id <;> simp
  · rw [if_neg h1, decide_eq_false h1]
    by_cases h2 : x.kind = 2
    · rw [if_pos h2, decide_eq_true h2]
      cases isNumB x.number <;> cases isNameB x.id <;> simp
    · rw [if_neg h2, decide_eq_false h2]
      simp
theorem step_ref {l : List It} {i : Nat} (hi : i < l.length) {vs : List (List ByteArray)} {s : Wk} (h : walkTo l i = some (vs, s)) (f : Nat) (hf : i < f) : (stepI s l[i]).isSome = okR l f i l[i] := by
  obtain ⟨h1, _⟩ := walk_seen (by omega) h
  have hseen : inB s.seen l[i].id = inB ((l.take i).map It.id) l[i].id := by
    rw [h1]
    cases hb : inB ((l.take i).map It.id) l[i].id with
    | true => exact (inB_iff _ _).2 (List.mem_reverse.2 ((inB_iff _ _).1 hb))
    | false => exact (inB_no _ _).2 fun hm => (inB_no _ _).1 hb (List.mem_reverse.1 hm)
  have hst : (stepI s l[i]).isSome = (properI l[i] && (!(inB s.seen l[i].id) && (kOf s.op l[i].parent).isSome)) := by
    unfold stepI
    cases hp : properI l[i] with
    | false => rw [if_neg (fun hh => by cases hh.1)]; rfl
    | true =>
      cases hn : inB s.seen l[i].id with
      | true => rw [if_neg (fun hh => by cases hh.2)]; rfl
      | false =>
        rw [if_pos ⟨rfl, rfl⟩]
        cases kOf s.op l[i].parent <;> rfl
  rw [hst, hseen, ← place_eq (by omega) h f hf, proper_ref]
  unfold okR
  cases isNameB l[i].id <;> cases inB ((l.take i).map It.id) l[i].id <;> cases isNumB l[i].number <;> simp [Bool.and_assoc]
end Go.Proofs.YtpldhempbdionaaGreatDoor.Dg
/- place of the reference. No conditions but those that each theorem states. -/
namespace Go.Proofs.YtpldhempbdionaaGreatDoor
open Go Go.RowKit Go.Sort Go.Maps
theorem op_le {l : List Dg.It} {N : Nat} (hN : N ≤ l.length) {vs : List (List ByteArray)} {s : Dg.Wk} (hW : Dg.walkTo l N = some (vs, s)) {j : Nat} (hj : j < N) {o : List ByteArray} (ho : vs[j]? = some o) : o.length ≤ j := by
  obtain ⟨s1, h1⟩ := Dg.walk_le hN hW (j + 1) (by omega)
  obtain ⟨vs0, s0, o0, w0, st0, e0⟩ := Dg.walk_step (l := l) (k := j) (by omega) h1
  have l0 := Dg.walk_len (by omega) w0
  have a0 : (vs.take (j + 1))[j]? = some o0 := by rw [e0, List.getElem?_append_right (by omega), l0]; simp
  rw [List.getElem?_take_of_lt (by omega), ho] at a0
  injection a0 with a0
  rw [a0]
  rw [e0] at h1
  exact op_short (by omega) h1
set_option maxRecDepth 100000 in
set_option maxHeartbeats 8000000 in
theorem place_of (l : List Dg.It) (A : Option Addr) (n c : Nat) (hl : l.length = n) (hn : n ≤ 1048576) (w : World) (hI : Its w w.heap.size A l) (i : Nat) (hi : i < l.length) (vs : List (List ByteArray)) (s : Dg.Wk) (hW : Dg.walkTo l i = some (vs, s)) (R : Bool) (hR : (Dg.kOf s.op l[i].parent).isSome = R) :
    Calls Tryz.prog 63 #[.agg #[.slice A n c], .int .i64 (i : Int)] w fun e w' => e = .returned (.bool R) ∧ Below w.heap.size w w' := by
  have hx1 := Below.news (Below.refl w.heap.size w) (.cells #[.slice A n c] 24)
  have hS1 : CR w.heap.size A n c l (w.alloc (.cells #[.slice A n c] 24)) := ⟨heap_alloc_new w _, hI.keep hx1⟩
  rw [← Dg.place_eq (by omega) hW (l.length + 1) (by omega)] at hR
  obtain ⟨y, hy⟩ : ∃ y, l[i] = y := ⟨_, rfl⟩
  rw [hy] at hR
  have HL := hide hl; have HW := hide hW; have HR := hide hR; have HY := hide hy
  clear hI hW hR hy hl
  have hmx : Tryz.prog.follows .mixedOrders = true := by kernel_rfl
  go_enter Tryz.func63, Tryz.ntmps63
  have hin : (i : Int) < (n : Int) := by have := HL.out; omega
  have hi0 : (0 : Int) ≤ (i : Int) := by omega
  obtain ⟨b, off, rfl⟩ := hS1.its.some hi
  have hc := iCells0 hS1.row
  obtain ⟨_, p0, p1, p2, p3, p4, p5, p6⟩ := hS1.its.cells hi y HY.out
  clear p0 p1 p3 p4 p5 p6
  have hpe : y.parent.toList.isEmpty = decide (y.parent = Dg.nil8) := (emp_iff _).symm
  by_cases hp : y.parent = Dg.nil8
  · rw [decide_eq_true hp] at hpe
    have E9 := hide (show true = R by rw [← HR.out]; unfold Dg.placeR; rw [if_pos hp])
    clear hp
    go_wp2
    go_ret
    exact ⟨ret_bool E9.out, hx1⟩
  · rw [decide_eq_false hp] at hpe
    by_cases h0 : i = 0
    · have h0' : ((i : Int) == 0) = true := beq_iff_eq.2 (by omega)
      have E9 := hide (show false = R by rw [← HR.out]; unfold Dg.placeR; rw [if_neg hp, h0])
      clear hp h0
      go_wp2
      go_ret
      exact ⟨ret_bool E9.out, hx1⟩
    · obtain ⟨j, hj⟩ : ∃ j, i = j + 1 := ⟨i - 1, by omega⟩
      have hi1 : ((i : Int) == 0) = false := beq_eq_false_iff_ne.2 (by omega)
      have hij : (i : Int) - 1 = (j : Int) := by omega
      have hwj : IntKind.i64.wrap (j : Int) = (j : Int) := IntWalk.i64_in _ (by omega)
      have hj0 : (0 : Int) ≤ (j : Int) := by omega
      have hjn : (j : Int) < (n : Int) := by have := HL.out; omega
      have hjl : j < l.length := by omega
      obtain ⟨x, hx⟩ : ∃ x, l[j] = x := ⟨_, rfl⟩
      obtain ⟨_, p0, p1, p3, p4, p5, p6, p7⟩ := hS1.its.cells hjl x hx
      have hvl := Dg.walk_len (by omega) HW.out
      obtain ⟨o, ho⟩ : ∃ o, vs[j]? = some o := ⟨_, List.getElem?_eq_getElem (by omega)⟩
      have hch := Dg.chain_eq (by omega) HW.out j (by omega) (l.length + 1) (by omega) o ho
      have hR2 : ((decide (x.id = y.parent) || Dg.inB o.reverse y.parent) && (match Dg.findI l y.parent with | none => false | some z => decide (z.kind = 1))) = R := by
        rw [← HR.out]
        unfold Dg.placeR
        rw [if_neg hp, hj]
        simp only [List.getElem?_eq_getElem hjl, hx]
        rw [hx] at hch
        rw [hch] <;> (cases Dg.findI l y.parent <;> rfl)
      have hat : ∀ (t : Nat) (ht : t < i) (htl : t < l.length), l[t].id = y.parent → findX l y.parent = (t : Int) ∧ Dg.findI l y.parent = some l[t] := fun t ht htl e => by
        rw [← e]
        exact ⟨findX_walk (by omega) HW.out ht, Dg.find_at (by omega) HW.out ht⟩
      have hom : ∀ d ∈ o, ∃ (t : Nat) (ht : t < i) (htl : t < l.length), l[t].id = d := fun d hd => by
        obtain ⟨o', ho', hmem, _⟩ := Dg.visit_at (by omega) HW.out (k := j) (by omega)
        rw [ho] at ho'
        injection ho' with ho'
        rw [ho'] at hd
        obtain ⟨z, hz, e⟩ := List.mem_map.1 (hmem d hd)
        obtain ⟨t, ht, rfl⟩ := List.mem_take_iff_getElem.1 hz
        exact ⟨t, by omega, by omega, e⟩
      have hol := op_le (by omega) HW.out (j := j) (by omega) ho
      have HO := hide ho; have HX := hide hx; have HR2 := hide hR2; have HAT := hide hat; have HOM := hide hom
      have HJ := hide hj
      clear hp h0 hvl hch hR2 hat hom hx ho HR hj
      go_upto_region 7 with (fail)
      have hx2 := Below.news (Below.refl (w.alloc (.cells #[.slice (some ⟨b, off, none⟩) n c] 24)).heap.size (w.alloc (.cells #[.slice (some ⟨b, off, none⟩) n c] 24))) (.cells #[.int .i64 x.kind, .string x.id, .string x.parent, .string x.number, .string x.north, .string x.south, .bool x.gone] 31)
      have hrx := heap_alloc_new (w.alloc (.cells #[.slice (some ⟨b, off, none⟩) n c] 24)) (.cells #[.int .i64 x.kind, .string x.id, .string x.parent, .string x.number, .string x.north, .string x.south, .bool x.gone] 31)
      have hz1 : (w.alloc (.cells #[.slice (some ⟨b, off, none⟩) n c] 24)).heap.size = w.heap.size + 1 := by simp
      rw [hz1] at hrx
      have hS2 := hS1.below hx2
      have hb2 := bnext hx1 hx2
      clear hS1 hx1 hx2 hz1 hc p0 p1 p2 p3 p4 p5 p6 p7
      generalize (w.alloc (.cells #[.slice (some ⟨b, off, none⟩) n c] 24)).alloc (.cells #[.int .i64 x.kind, .string x.id, .string x.parent, .string x.number, .string x.north, .string x.south, .bool x.gone] 31) = w2 at *
      have hc := iCells0 hS2.row
      obtain ⟨_, q1, _⟩ := iCells hrx
      by_cases he : x.id = y.parent
      · have hbe := bs_yes he
        obtain ⟨hfx, hfi⟩ := HAT.out j (by have := HJ.out; omega) hjl (by rw [HX.out]; exact he)
        rw [HX.out] at hfi
        have E9 := hide (show decide (x.kind = 1) = R by rw [← HR2.out, decide_eq_true he, hfi]; rfl)
        have HF := hide hfx
        clear he hfx hfi
        go_upto_region 9 with (fail)
        clear q1 hrx
        clear hc
        try clear hc1
        try clear hc2
        refine wp_region_noPanic ?_
        refine wp_region_L (CR w.heap.size (some ⟨b, off, none⟩) n c l) 10 hmx ?_
        have hdr := (Below.refl w2.heap.size w2).drew
        have hS21 : (CR w.heap.size (some ⟨b, off, none⟩) n c l) w2.drew := hS2.below hdr
        have hb21 := bnext hb2 hdr
        clear hdr hS2 hb2
        generalize w2.drew = w21 at *
        refine wpAnyL_take (i := 0) (f0 := 12) (v := ?_) rfl (by decide +kernel) (by decide +kernel) (by decide +kernel) (by decide +kernel) (by decide +kernel) (fun _ _ _ h => h) (Or.inl ⟨by rfl, ?_⟩) hS21 ?_
        rotate_left
        · intro wS hS; go_simp; (try with_reducible rfl)
        simp only [Act.put, List.getElem_toArray, List.getElem_cons_zero, List.setIfInBounds_toArray, List.set_cons_succ, List.set_cons_zero]
        refine wpAnyL_take (i := 1) (f0 := 12) (v := ?_) rfl (by decide +kernel) (by decide +kernel) (by decide +kernel) (by decide +kernel) (by decide +kernel) (fun _ _ _ h => h) (Or.inl ⟨by rfl, ?_⟩) hS21 ?_
        rotate_left
        · intro wS hS; have c9 := iCells0 hS.row; go_simp; (try with_reducible rfl)
        simp only [Act.put, List.getElem_toArray, List.getElem_cons_succ, List.getElem_cons_zero, List.setIfInBounds_toArray, List.set_cons_succ, List.set_cons_zero]
        refine wpAnyL_take (i := 2) (f0 := 12) (v := ?_) rfl (by decide +kernel) (by decide +kernel) (by decide +kernel) (by decide +kernel) (by decide +kernel) (fun _ _ _ h => h) (Or.inl ⟨by rfl, ?_⟩) hS21 ?_
        rotate_left
        · intro wS hS; have c9 := iCells0 hS.row; go_simp; (try with_reducible rfl)
        simp only [Act.put, List.getElem_toArray, List.getElem_cons_succ, List.getElem_cons_zero, List.setIfInBounds_toArray, List.set_cons_succ, List.set_cons_zero]
        refine wpAnyL_take (i := 3) (f0 := 12) (v := ?_) rfl (by decide +kernel) (by decide +kernel) (by decide +kernel) (by decide +kernel) (by decide +kernel) (fun _ _ _ h => h) (Or.inl ⟨by rfl, ?_⟩) hS21 ?_
        rotate_left
        · intro wS hS; go_simp; (try with_reducible rfl)
        simp only [Act.put, List.getElem_toArray, List.getElem_cons_succ, List.getElem_cons_zero, List.setIfInBounds_toArray, List.set_cons_succ, List.set_cons_zero]
        refine wpAnyL_one (i := 4) (by decide +kernel) (by rfl) (fun K hK => ?_)
        rw [if_pos (by rfl)]
        go_simp
        refine (rfind_of l (some ⟨b, off, none⟩) n c HL.out (by omega) y.parent w21 hS21.its (j : Int) HF.out).mono ?_
        rintro e w22 ⟨rfl, hx22⟩
        have hS22 : (CR w.heap.size (some ⟨b, off, none⟩) n c l) w22 := hS21.below hx22
        have hb22 := bnext hb21 hx22
        refine hK.out _ _ (Or.inr hS22) ?_
        clear hK K hS21 hb21 hx22
        try simp only [Act.put, List.getElem_toArray, List.getElem_cons_succ, List.getElem_cons_zero, List.setIfInBounds_toArray, List.set_cons_succ, List.set_cons_zero]
        refine wpAnyL_take (i := 5) (f0 := 12) (v := ?_) rfl (by decide +kernel) (by decide +kernel) (by decide +kernel) (by decide +kernel) (by decide +kernel) (fun _ _ _ h => h) (Or.inl ⟨by rfl, ?_⟩) hS22 ?_
        rotate_left
        · intro wS hS; go_simp; (try with_reducible rfl)
        simp only [Act.put, List.getElem_toArray, List.getElem_cons_succ, List.getElem_cons_zero, List.setIfInBounds_toArray, List.set_cons_succ, List.set_cons_zero]
        refine wpAnyL_take (i := 6) (f0 := 12) (v := ?_) rfl (by decide +kernel) (by decide +kernel) (by decide +kernel) (by decide +kernel) (by decide +kernel) (fun _ _ _ h => h) (Or.inl ⟨by rfl, ?_⟩) hS22 ?_
        rotate_left
        · intro wS hS; go_simp; (try with_reducible rfl)
        simp only [Act.put, List.getElem_toArray, List.getElem_cons_succ, List.getElem_cons_zero, List.setIfInBounds_toArray, List.set_cons_succ, List.set_cons_zero]
        refine wpAnyL_take (i := 7) (f0 := 12) (v := ?_) rfl (by decide +kernel) (by decide +kernel) (by decide +kernel) (by decide +kernel) (by decide +kernel) (fun _ _ _ h => h) (Or.inl ⟨by rfl, ?_⟩) hS22 ?_
        rotate_left
        · intro wS hS; obtain ⟨_, p0, p1, p2, p3, p4, p5, p6⟩ := hS.its.cells hjl x HX.out; go_simp; (try with_reducible rfl)
        simp only [Act.put, List.getElem_toArray, List.getElem_cons_succ, List.getElem_cons_zero, List.setIfInBounds_toArray, List.set_cons_succ, List.set_cons_zero]
        refine wpAnyL_take (i := 8) (f0 := 12) (v := ?_) rfl (by decide +kernel) (by decide +kernel) (by decide +kernel) (by decide +kernel) (by decide +kernel) (fun _ _ _ h => h) (Or.inl ⟨by rfl, ?_⟩) hS22 ?_
        rotate_left
        · intro wS hS; go_simp; (try with_reducible rfl)
        simp only [Act.put, List.getElem_toArray, List.getElem_cons_succ, List.getElem_cons_zero, List.setIfInBounds_toArray, List.set_cons_succ, List.set_cons_zero]
        refine wpAnyL_take (i := 9) (f0 := 12) (v := ?_) rfl (by decide +kernel) (by decide +kernel) (by decide +kernel) (by decide +kernel) (by decide +kernel) (fun _ _ _ h => h) (Or.inl ⟨by rfl, ?_⟩) hS22 ?_
        rotate_left
        · intro wS hS; go_simp; (try with_reducible rfl)
        simp only [Act.put, List.getElem_toArray, List.getElem_cons_succ, List.getElem_cons_zero, List.setIfInBounds_toArray, List.set_cons_succ, List.set_cons_zero]
        refine wpAnyL_done (by decide +kernel) ?_ _
        refine NoPanic.normal ?_
        have E8 := hide (show (x.kind == 1) = R by rw [← E9.out]; exact Bool.eq_iff_iff.2 (by rw [beq_iff_eq, decide_eq_true_eq]))
        go_wp2
        go_ret
        exact ⟨ret_bool E8.out, hb22⟩
      · have hbe := bs_no he
        go_wp2_with fail
        refine (rchainC_of l (some ⟨b, off, none⟩) n c HL.out hn w2 hS2.its i (by omega) vs s HW.out j (by have := HJ.out; omega) o HO.out o.length rfl (by have := HL.out; omega)).mono ?_
        rintro e w3 ⟨⟨A3, c3, rfl, hs3⟩, hx3⟩
        have hS3 := hS2.below hx3
        have hb3 := bnext hb2 hx3
        clear hS2 hb2 hx3 hc q1 hrx
        have hc := iCells0 hS3.row
        go_wp2_with fail
        obtain ⟨U, hU⟩ : ∃ U, Dg.inB o.reverse y.parent = U := ⟨_, rfl⟩
        refine (rin_of o.reverse A3 o.length c3 (by rw [List.length_reverse]) (by have := HL.out; omega) y.parent w3 hs3 U hU).mono ?_
        rintro e w4 ⟨rfl, rfl⟩
        clear hs3
        cases U with
        | false =>
          have E9 := hide (show false = R by rw [← HR2.out, decide_eq_false he, hU]; rfl)
          clear he hU
          go_wp2
          go_ret
          exact ⟨ret_bool E9.out, hb3⟩
        | true =>
          obtain ⟨t, ht, htl, hti⟩ := HOM.out y.parent (List.mem_reverse.1 ((Dg.inB_iff _ _).1 hU))
          obtain ⟨hfx, hfi⟩ := HAT.out t ht htl hti
          obtain ⟨z, hz⟩ : ∃ z, l[t] = z := ⟨_, rfl⟩
          rw [hz] at hfi
          have E9 := hide (show decide (z.kind = 1) = R by rw [← HR2.out, hU, Bool.or_true, hfi]; rfl)
          have HF := hide hfx; have HZ := hide hz
          have ht0 : (0 : Int) ≤ (t : Int) := by omega
          have htn : (t : Int) < (n : Int) := by have := HL.out; omega
          clear he hfx hfi hU hti hz
          go_upto_region 9 with (fail)
          clear hc
          try clear hc1
          try clear hc2
          refine wp_region_noPanic ?_
          refine wp_region_L (CR w.heap.size (some ⟨b, off, none⟩) n c l) 10 hmx ?_
          have hdr := (Below.refl w4.heap.size w4).drew
          have hS21 : (CR w.heap.size (some ⟨b, off, none⟩) n c l) w4.drew := hS3.below hdr
          have hb21 := bnext hb3 hdr
          clear hdr hS3 hb3
          generalize w4.drew = w21 at *
          refine wpAnyL_take (i := 0) (f0 := 12) (v := ?_) rfl (by decide +kernel) (by decide +kernel) (by decide +kernel) (by decide +kernel) (by decide +kernel) (fun _ _ _ h => h) (Or.inl ⟨by rfl, ?_⟩) hS21 ?_
          rotate_left
          · intro wS hS; go_simp; (try with_reducible rfl)
          simp only [Act.put, List.getElem_toArray, List.getElem_cons_zero, List.setIfInBounds_toArray, List.set_cons_succ, List.set_cons_zero]
          refine wpAnyL_take (i := 1) (f0 := 12) (v := ?_) rfl (by decide +kernel) (by decide +kernel) (by decide +kernel) (by decide +kernel) (by decide +kernel) (fun _ _ _ h => h) (Or.inl ⟨by rfl, ?_⟩) hS21 ?_
          rotate_left
          · intro wS hS; have c9 := iCells0 hS.row; go_simp; (try with_reducible rfl)
          simp only [Act.put, List.getElem_toArray, List.getElem_cons_succ, List.getElem_cons_zero, List.setIfInBounds_toArray, List.set_cons_succ, List.set_cons_zero]
          refine wpAnyL_take (i := 2) (f0 := 12) (v := ?_) rfl (by decide +kernel) (by decide +kernel) (by decide +kernel) (by decide +kernel) (by decide +kernel) (fun _ _ _ h => h) (Or.inl ⟨by rfl, ?_⟩) hS21 ?_
          rotate_left
          · intro wS hS; have c9 := iCells0 hS.row; go_simp; (try with_reducible rfl)
          simp only [Act.put, List.getElem_toArray, List.getElem_cons_succ, List.getElem_cons_zero, List.setIfInBounds_toArray, List.set_cons_succ, List.set_cons_zero]
          refine wpAnyL_take (i := 3) (f0 := 12) (v := ?_) rfl (by decide +kernel) (by decide +kernel) (by decide +kernel) (by decide +kernel) (by decide +kernel) (fun _ _ _ h => h) (Or.inl ⟨by rfl, ?_⟩) hS21 ?_
          rotate_left
          · intro wS hS; go_simp; (try with_reducible rfl)
          simp only [Act.put, List.getElem_toArray, List.getElem_cons_succ, List.getElem_cons_zero, List.setIfInBounds_toArray, List.set_cons_succ, List.set_cons_zero]
          refine wpAnyL_one (i := 4) (by decide +kernel) (by rfl) (fun K hK => ?_)
          rw [if_pos (by rfl)]
          go_simp
          refine (rfind_of l (some ⟨b, off, none⟩) n c HL.out (by omega) y.parent w21 hS21.its (t : Int) HF.out).mono ?_
          rintro e w22 ⟨rfl, hx22⟩
          have hS22 : (CR w.heap.size (some ⟨b, off, none⟩) n c l) w22 := hS21.below hx22
          have hb22 := bnext hb21 hx22
          refine hK.out _ _ (Or.inr hS22) ?_
          clear hK K hS21 hb21 hx22
          try simp only [Act.put, List.getElem_toArray, List.getElem_cons_succ, List.getElem_cons_zero, List.setIfInBounds_toArray, List.set_cons_succ, List.set_cons_zero]
          refine wpAnyL_take (i := 5) (f0 := 12) (v := ?_) rfl (by decide +kernel) (by decide +kernel) (by decide +kernel) (by decide +kernel) (by decide +kernel) (fun _ _ _ h => h) (Or.inl ⟨by rfl, ?_⟩) hS22 ?_
          rotate_left
          · intro wS hS; go_simp; (try with_reducible rfl)
          simp only [Act.put, List.getElem_toArray, List.getElem_cons_succ, List.getElem_cons_zero, List.setIfInBounds_toArray, List.set_cons_succ, List.set_cons_zero]
          refine wpAnyL_take (i := 6) (f0 := 12) (v := ?_) rfl (by decide +kernel) (by decide +kernel) (by decide +kernel) (by decide +kernel) (by decide +kernel) (fun _ _ _ h => h) (Or.inl ⟨by rfl, ?_⟩) hS22 ?_
          rotate_left
          · intro wS hS; go_simp; (try with_reducible rfl)
          simp only [Act.put, List.getElem_toArray, List.getElem_cons_succ, List.getElem_cons_zero, List.setIfInBounds_toArray, List.set_cons_succ, List.set_cons_zero]
          refine wpAnyL_take (i := 7) (f0 := 12) (v := ?_) rfl (by decide +kernel) (by decide +kernel) (by decide +kernel) (by decide +kernel) (by decide +kernel) (fun _ _ _ h => h) (Or.inl ⟨by rfl, ?_⟩) hS22 ?_
          rotate_left
          · intro wS hS; obtain ⟨_, p0, p1, p2, p3, p4, p5, p6⟩ := hS.its.cells htl z HZ.out; go_simp; (try with_reducible rfl)
          simp only [Act.put, List.getElem_toArray, List.getElem_cons_succ, List.getElem_cons_zero, List.setIfInBounds_toArray, List.set_cons_succ, List.set_cons_zero]
          refine wpAnyL_take (i := 8) (f0 := 12) (v := ?_) rfl (by decide +kernel) (by decide +kernel) (by decide +kernel) (by decide +kernel) (by decide +kernel) (fun _ _ _ h => h) (Or.inl ⟨by rfl, ?_⟩) hS22 ?_
          rotate_left
          · intro wS hS; go_simp; (try with_reducible rfl)
          simp only [Act.put, List.getElem_toArray, List.getElem_cons_succ, List.getElem_cons_zero, List.setIfInBounds_toArray, List.set_cons_succ, List.set_cons_zero]
          refine wpAnyL_take (i := 9) (f0 := 12) (v := ?_) rfl (by decide +kernel) (by decide +kernel) (by decide +kernel) (by decide +kernel) (by decide +kernel) (fun _ _ _ h => h) (Or.inl ⟨by rfl, ?_⟩) hS22 ?_
          rotate_left
          · intro wS hS; go_simp; (try with_reducible rfl)
          simp only [Act.put, List.getElem_toArray, List.getElem_cons_succ, List.getElem_cons_zero, List.setIfInBounds_toArray, List.set_cons_succ, List.set_cons_zero]
          refine wpAnyL_done (by decide +kernel) ?_ _
          refine NoPanic.normal ?_
          have E8 := hide (show (z.kind == 1) = R by rw [← E9.out]; exact Bool.eq_iff_iff.2 (by rw [beq_iff_eq, decide_eq_true_eq]))
          go_wp2
          go_ret
          exact ⟨ret_bool E8.out, hb22⟩
end Go.Proofs.YtpldhempbdionaaGreatDoor
/- Names and numbers by the reference. No conditions but those that each theorem states. -/
namespace Go.Proofs.YtpldhempbdionaaGreatDoor
open Go Go.RowKit Go.Sort Go.Maps
def wordB (c : UInt8) : Bool := Dg.letterB c || Dg.digitB c
theorem nameL_eq (l : List UInt8) : Dg.nameL l = (l.all wordB && match l with | [] => false | c :: _ => Dg.letterB c) := by
  cases l with
  | nil => rfl
  | cons c r =>
    show (Dg.letterB c && r.all wordB) = ((wordB c && r.all wordB) && Dg.letterB c)
    unfold wordB
    cases Dg.letterB c <;> simp
theorem letter_of (c : UInt8) (w : World) :
    Calls Tryz.prog 91 #[.int .u8 (c.toNat : Int)] w fun e w' => e = .returned (.bool (Dg.letterB c)) ∧ w' = w := by
  go_enter Tryz.func91, Tryz.ntmps91
  rcases byte_cls c with ⟨b0, b1, hl⟩ | ⟨b0, b1, hl⟩ | ⟨b0, hl, hd⟩ | ⟨b0, b1, hl, hd⟩ | ⟨b0, hl, hd⟩ | ⟨b0, b1, hl, hd⟩ | ⟨b0, b1, b2, hl, hd⟩ | ⟨b0, hl, hd⟩
  · rw [hl]
    have q0 : 97 ≤ (c.toNat : Int) := by omega
    have q1 : (c.toNat : Int) ≤ 122 := by omega
    have q2 : 65 ≤ (c.toNat : Int) := by omega
    have q3 : ¬ (c.toNat : Int) ≤ 90 := by omega
    clear b0 b1 hl
    go_wp2
    go_ret
    exact ⟨rfl, rfl⟩
  · rw [hl]
    have q0 : ¬ 97 ≤ (c.toNat : Int) := by omega
    have q1 : (c.toNat : Int) ≤ 122 := by omega
    have q2 : 65 ≤ (c.toNat : Int) := by omega
    have q3 : (c.toNat : Int) ≤ 90 := by omega
    clear b0 b1 hl
    go_wp2
    go_ret
    exact ⟨rfl, rfl⟩
  · rw [hl]
    have q0 : ¬ 97 ≤ (c.toNat : Int) := by omega
    have q1 : (c.toNat : Int) ≤ 122 := by omega
    have q2 : 65 ≤ (c.toNat : Int) := by omega
    have q3 : ¬ (c.toNat : Int) ≤ 90 := by omega
    clear b0 hl hd
    go_wp2
    go_ret
    exact ⟨rfl, rfl⟩
  · rw [hl]
    have q0 : ¬ 97 ≤ (c.toNat : Int) := by omega
    have q1 : (c.toNat : Int) ≤ 122 := by omega
    have q2 : ¬ 65 ≤ (c.toNat : Int) := by omega
    have q3 : (c.toNat : Int) ≤ 90 := by omega
    clear b0 b1 hl hd
    go_wp2
    go_ret
    exact ⟨rfl, rfl⟩
  · rw [hl]
    have q0 : ¬ 97 ≤ (c.toNat : Int) := by omega
    have q1 : (c.toNat : Int) ≤ 122 := by omega
    have q2 : ¬ 65 ≤ (c.toNat : Int) := by omega
    have q3 : (c.toNat : Int) ≤ 90 := by omega
    clear b0 hl hd
    go_wp2
    go_ret
    exact ⟨rfl, rfl⟩
  · rw [hl]
    have q0 : ¬ 97 ≤ (c.toNat : Int) := by omega
    have q1 : (c.toNat : Int) ≤ 122 := by omega
    have q2 : ¬ 65 ≤ (c.toNat : Int) := by omega
    have q3 : (c.toNat : Int) ≤ 90 := by omega
    clear b0 b1 hl hd
    go_wp2
    go_ret
    exact ⟨rfl, rfl⟩
  · rw [hl]
    have q0 : ¬ 97 ≤ (c.toNat : Int) := by omega
    have q1 : (c.toNat : Int) ≤ 122 := by omega
    have q2 : 65 ≤ (c.toNat : Int) := by omega
    have q3 : ¬ (c.toNat : Int) ≤ 90 := by omega
    clear b0 b1 b2 hl hd
    go_wp2
    go_ret
    exact ⟨rfl, rfl⟩
  · rw [hl]
    have q0 : 97 ≤ (c.toNat : Int) := by omega
    have q1 : ¬ (c.toNat : Int) ≤ 122 := by omega
    have q2 : 65 ≤ (c.toNat : Int) := by omega
    have q3 : ¬ (c.toNat : Int) ≤ 90 := by omega
    clear b0 hl hd
    go_wp2
    go_ret
    exact ⟨rfl, rfl⟩
theorem digit5_of (c : UInt8) (w : World) :
    Calls Tryz.prog 110 #[.int .u8 (c.toNat : Int)] w fun e w' => e = .returned (.bool (decide (48 ≤ c.toNat ∧ c.toNat ≤ 57))) ∧ w' = w := by
  go_enter Tryz.func110, Tryz.ntmps110
  rcases byte_cls c with ⟨b0, b1, hl⟩ | ⟨b0, b1, hl⟩ | ⟨b0, hl, hd⟩ | ⟨b0, b1, hl, hd⟩ | ⟨b0, hl, hd⟩ | ⟨b0, b1, hl, hd⟩ | ⟨b0, b1, b2, hl, hd⟩ | ⟨b0, hl, hd⟩
  · rw [show decide (48 ≤ c.toNat ∧ c.toNat ≤ 57) = false from decide_eq_false (by omega)]
    have q4 : 48 ≤ (c.toNat : Int) := by omega
    have q5 : ¬ (c.toNat : Int) ≤ 57 := by omega
    clear b0 b1 hl
    go_wp2
    go_ret
    exact ⟨rfl, rfl⟩
  · rw [show decide (48 ≤ c.toNat ∧ c.toNat ≤ 57) = false from decide_eq_false (by omega)]
    have q4 : 48 ≤ (c.toNat : Int) := by omega
    have q5 : ¬ (c.toNat : Int) ≤ 57 := by omega
    clear b0 b1 hl
    go_wp2
    go_ret
    exact ⟨rfl, rfl⟩
  · rw [show decide (48 ≤ c.toNat ∧ c.toNat ≤ 57) = false from decide_eq_false (by omega)]
    have q4 : 48 ≤ (c.toNat : Int) := by omega
    have q5 : ¬ (c.toNat : Int) ≤ 57 := by omega
    clear b0 hl hd
    go_wp2
    go_ret
    exact ⟨rfl, rfl⟩
  · rw [show decide (48 ≤ c.toNat ∧ c.toNat ≤ 57) = true from decide_eq_true (by omega)]
    have q4 : 48 ≤ (c.toNat : Int) := by omega
    have q5 : (c.toNat : Int) ≤ 57 := by omega
    clear b0 b1 hl hd
    go_wp2
    go_ret
    exact ⟨rfl, rfl⟩
  · rw [show decide (48 ≤ c.toNat ∧ c.toNat ≤ 57) = false from decide_eq_false (by omega)]
    have q4 : ¬ 48 ≤ (c.toNat : Int) := by omega
    have q5 : (c.toNat : Int) ≤ 57 := by omega
    clear b0 hl hd
    go_wp2
    go_ret
    exact ⟨rfl, rfl⟩
  · rw [show decide (48 ≤ c.toNat ∧ c.toNat ≤ 57) = false from decide_eq_false (by omega)]
    have q4 : 48 ≤ (c.toNat : Int) := by omega
    have q5 : ¬ (c.toNat : Int) ≤ 57 := by omega
    clear b0 b1 hl hd
    go_wp2
    go_ret
    exact ⟨rfl, rfl⟩
  · rw [show decide (48 ≤ c.toNat ∧ c.toNat ≤ 57) = false from decide_eq_false (by omega)]
    have q4 : 48 ≤ (c.toNat : Int) := by omega
    have q5 : ¬ (c.toNat : Int) ≤ 57 := by omega
    clear b0 b1 b2 hl hd
    go_wp2
    go_ret
    exact ⟨rfl, rfl⟩
  · rw [show decide (48 ≤ c.toNat ∧ c.toNat ≤ 57) = false from decide_eq_false (by omega)]
    have q4 : 48 ≤ (c.toNat : Int) := by omega
    have q5 : ¬ (c.toNat : Int) ≤ 57 := by omega
    clear b0 hl hd
    go_wp2
    go_ret
    exact ⟨rfl, rfl⟩
theorem word5_of (c : UInt8) (w : World) :
    Calls Tryz.prog 90 #[.int .u8 (c.toNat : Int)] w fun e w' => e = .returned (.bool (wordB c)) ∧ w' = w := by
  have HL := letter_of c w
  have HD := digit5_of c w
  rcases byte_cls c with ⟨b0, b1, hl⟩ | ⟨b0, b1, hl⟩ | ⟨b0, hl, hd⟩ | ⟨b0, b1, hl, hd⟩ | ⟨b0, hl, hd⟩ | ⟨b0, b1, hl, hd⟩ | ⟨b0, b1, b2, hl, hd⟩ | ⟨b0, hl, hd⟩
  · have hwd : wordB c = true := by unfold wordB; rw [hl, Bool.true_or]
    rw [hwd]
    rw [hl] at HL
    rw [show decide (48 ≤ c.toNat ∧ c.toNat ≤ 57) = false from decide_eq_false (by omega)] at HD
    have q6 : ((c.toNat : Int) == 95) = false := by rw [beq_eq_false_iff_ne, ne_eq]; omega
    clear b0 b1 hl hwd
    go_enter Tryz.func90, Tryz.ntmps90
    go_wp2_with fail
    refine HL.mono ?_
    rintro e w2 ⟨rfl, rfl⟩
    clear HL
    clear HD
    go_wp2
    go_ret
    exact ⟨rfl, rfl⟩
  · have hwd : wordB c = true := by unfold wordB; rw [hl, Bool.true_or]
    rw [hwd]
    rw [hl] at HL
    rw [show decide (48 ≤ c.toNat ∧ c.toNat ≤ 57) = false from decide_eq_false (by omega)] at HD
    have q6 : ((c.toNat : Int) == 95) = false := by rw [beq_eq_false_iff_ne, ne_eq]; omega
    clear b0 b1 hl hwd
    go_enter Tryz.func90, Tryz.ntmps90
    go_wp2_with fail
    refine HL.mono ?_
    rintro e w2 ⟨rfl, rfl⟩
    clear HL
    clear HD
    go_wp2
    go_ret
    exact ⟨rfl, rfl⟩
  · have hwd : wordB c = true := by unfold wordB; rw [hl, hd]; rfl
    rw [hwd]
    rw [hl] at HL
    rw [show decide (48 ≤ c.toNat ∧ c.toNat ≤ 57) = false from decide_eq_false (by omega)] at HD
    have q6 : ((c.toNat : Int) == 95) = true := by rw [beq_iff_eq]; omega
    clear b0 hl hd hwd
    go_enter Tryz.func90, Tryz.ntmps90
    go_wp2_with fail
    refine HL.mono ?_
    rintro e w2 ⟨rfl, rfl⟩
    clear HL
    go_wp2_with fail
    refine HD.mono ?_
    rintro e w2 ⟨rfl, rfl⟩
    clear HD
    go_wp2
    go_ret
    exact ⟨rfl, rfl⟩
  · have hwd : wordB c = true := by unfold wordB; rw [hl, hd]; rfl
    rw [hwd]
    rw [hl] at HL
    rw [show decide (48 ≤ c.toNat ∧ c.toNat ≤ 57) = true from decide_eq_true (by omega)] at HD
    have q6 : ((c.toNat : Int) == 95) = false := by rw [beq_eq_false_iff_ne, ne_eq]; omega
    clear b0 b1 hl hd hwd
    go_enter Tryz.func90, Tryz.ntmps90
    go_wp2_with fail
    refine HL.mono ?_
    rintro e w2 ⟨rfl, rfl⟩
    clear HL
    go_wp2_with fail
    refine HD.mono ?_
    rintro e w2 ⟨rfl, rfl⟩
    clear HD
    go_wp2
    go_ret
    exact ⟨rfl, rfl⟩
  · have hwd : wordB c = false := by unfold wordB; rw [hl, hd]; rfl
    rw [hwd]
    rw [hl] at HL
    rw [show decide (48 ≤ c.toNat ∧ c.toNat ≤ 57) = false from decide_eq_false (by omega)] at HD
    have q6 : ((c.toNat : Int) == 95) = false := by rw [beq_eq_false_iff_ne, ne_eq]; omega
    clear b0 hl hd hwd
    go_enter Tryz.func90, Tryz.ntmps90
    go_wp2_with fail
    refine HL.mono ?_
    rintro e w2 ⟨rfl, rfl⟩
    clear HL
    go_wp2_with fail
    refine HD.mono ?_
    rintro e w2 ⟨rfl, rfl⟩
    clear HD
    go_wp2
    go_ret
    exact ⟨rfl, rfl⟩
  · have hwd : wordB c = false := by unfold wordB; rw [hl, hd]; rfl
    rw [hwd]
    rw [hl] at HL
    rw [show decide (48 ≤ c.toNat ∧ c.toNat ≤ 57) = false from decide_eq_false (by omega)] at HD
    have q6 : ((c.toNat : Int) == 95) = false := by rw [beq_eq_false_iff_ne, ne_eq]; omega
    clear b0 b1 hl hd hwd
    go_enter Tryz.func90, Tryz.ntmps90
    go_wp2_with fail
    refine HL.mono ?_
    rintro e w2 ⟨rfl, rfl⟩
    clear HL
    go_wp2_with fail
    refine HD.mono ?_
    rintro e w2 ⟨rfl, rfl⟩
    clear HD
    go_wp2
    go_ret
    exact ⟨rfl, rfl⟩
  · have hwd : wordB c = false := by unfold wordB; rw [hl, hd]; rfl
    rw [hwd]
    rw [hl] at HL
    rw [show decide (48 ≤ c.toNat ∧ c.toNat ≤ 57) = false from decide_eq_false (by omega)] at HD
    have q6 : ((c.toNat : Int) == 95) = false := by rw [beq_eq_false_iff_ne, ne_eq]; omega
    clear b0 b1 b2 hl hd hwd
    go_enter Tryz.func90, Tryz.ntmps90
    go_wp2_with fail
    refine HL.mono ?_
    rintro e w2 ⟨rfl, rfl⟩
    clear HL
    go_wp2_with fail
    refine HD.mono ?_
    rintro e w2 ⟨rfl, rfl⟩
    clear HD
    go_wp2
    go_ret
    exact ⟨rfl, rfl⟩
  · have hwd : wordB c = false := by unfold wordB; rw [hl, hd]; rfl
    rw [hwd]
    rw [hl] at HL
    rw [show decide (48 ≤ c.toNat ∧ c.toNat ≤ 57) = false from decide_eq_false (by omega)] at HD
    have q6 : ((c.toNat : Int) == 95) = false := by rw [beq_eq_false_iff_ne, ne_eq]; omega
    clear b0 hl hd hwd
    go_enter Tryz.func90, Tryz.ntmps90
    go_wp2_with fail
    refine HL.mono ?_
    rintro e w2 ⟨rfl, rfl⟩
    clear HL
    go_wp2_with fail
    refine HD.mono ?_
    rintro e w2 ⟨rfl, rfl⟩
    clear HD
    go_wp2
    go_ret
    exact ⟨rfl, rfl⟩
set_option maxHeartbeats 4000000 in
theorem rname_of (s : ByteArray) (R : Bool) (hR : Dg.isNameB s = R) (hs : s.size ≤ 9223372036854775807) (w : World) :
    Calls Tryz.prog 61 #[.string s] w fun e w' => e = .returned (.bool R) ∧ w' = w := by
  have HR := hide hR; clear hR
  go_enter Tryz.func61, Tryz.ntmps61
  go_wp2
  go_loop [3] (fun i => ∃ k : Nat, k ≤ s.size ∧ i = .int .i64 k ∧ Hid (∀ j c, j < k → (Dg.L s)[j]? = some c → wordB c = true)) (fun i => s.size - (intOf i).toNat)
  case atStart => exact ⟨0, by omega, rfl, fun j c hj => by omega⟩
  case round =>
    obtain ⟨k, hk, rfl, hm⟩ := hrel
    by_cases hlt : k < s.size
    · have hc := byte_at hlt
      obtain ⟨c, hcc⟩ : ∃ c, s[k]'hlt = c := ⟨_, rfl⟩
      rw [hcc] at hc
      have HC := hide hc; clear hc
      go_wp2_with fail
      refine (word5_of c w).mono ?_
      rintro e w' ⟨rfl, rfl⟩
      cases hw : wordB c with
      | true =>
        have HW := hide hw; clear hw
        go_wp2
        go_round
        case rel => exact ⟨k + 1, by omega, by go_num, fun j d hj hd => by
          by_cases e : j = k
          · rw [e, HC.out] at hd
            injection hd with hd
            rw [← hd]; exact HW.out
          · exact hm.out j d (by omega) hd⟩
        case measure => simp [intOf]; omega
      | false =>
        have E9 := hide (show false = R by
          rw [← HR.out]
          unfold Dg.isNameB
          rw [nameL_eq, show (Dg.L s).all wordB = false from List.all_eq_false.2 ⟨c, List.mem_of_getElem? HC.out, by rw [hw]; exact Bool.false_ne_true⟩]
          rfl)
        clear hw
        go_wp2
        go_ret
        exact ⟨ret_bool E9.out, rfl⟩
    · obtain rfl : k = s.size := by omega
      have hall : (Dg.L s).all wordB = true := List.all_eq_true.2 fun c hc => by
        obtain ⟨j, hj, rfl⟩ := List.mem_iff_getElem.1 hc
        exact hm.out j _ (by rw [← Dg.len_L]; exact hj) (List.getElem?_eq_getElem hj)
      have HE := hide (show Dg.isNameB s = ((match Dg.L s with | [] => false | c :: _ => Dg.letterB c) && decide (s.size ≤ 24)) by
        unfold Dg.isNameB
        rw [nameL_eq, hall, Bool.true_and])
      clear hall
      by_cases h0 : s.size = 0
      · have h1 : ¬ (0 : Int) < (s.size : Int) := by omega
        have E9 := hide (show false = R by
          rw [← HR.out, HE.out, show Dg.L s = [] from List.eq_nil_of_length_eq_zero (by rw [Dg.len_L]; exact h0)]
          rfl)
        clear h0
        go_wp2
        go_ret
        exact ⟨ret_bool E9.out, rfl⟩
      · have hlt0 : 0 < s.size := by omega
        have h1 : (0 : Int) < (s.size : Int) := by omega
        by_cases h2 : s.size ≤ 24
        · have h3 : (s.size : Int) ≤ 24 := by omega
          have hc := byte_at hlt0
          obtain ⟨c, hcc⟩ : ∃ c, s[0]'hlt0 = c := ⟨_, rfl⟩
          rw [hcc] at hc
          have E9 := hide (show Dg.letterB c = R by
            rw [← HR.out, HE.out, decide_eq_true h2, Bool.and_true]
            cases hL : Dg.L s with
            | nil => rw [hL] at hc; cases hc
            | cons d r => rw [hL] at hc; cases hc; rfl)
          clear hc h0 h2
          go_wp2_with fail
          refine (letter_of c w).mono ?_
          rintro e w' ⟨rfl, rfl⟩
          go_wp2
          go_ret
          exact ⟨ret_bool E9.out, rfl⟩
        · have h3 : ¬ (s.size : Int) ≤ 24 := by omega
          have E9 := hide (show false = R by rw [← HR.out, HE.out, decide_eq_false h2, Bool.and_false])
          clear h0 h2
          go_wp2
          go_ret
          exact ⟨ret_bool E9.out, rfl⟩
set_option maxHeartbeats 4000000 in
theorem rnum_of (s : ByteArray) (R : Bool) (hR : Dg.isNumB s = R) (hs : s.size ≤ 9223372036854775807) (w : World) :
    Calls Tryz.prog 62 #[.string s] w fun e w' => e = .returned (.bool R) ∧ w' = w := by
  have HR := hide hR; clear hR
  go_enter Tryz.func62, Tryz.ntmps62
  go_wp2
  go_loop [3] (fun i => ∃ k : Nat, k ≤ s.size ∧ i = .int .i64 k ∧ Hid (∀ j c, j < k → (Dg.L s)[j]? = some c → Dg.numC c = true)) (fun i => s.size - (intOf i).toNat)
  case atStart => exact ⟨0, by omega, rfl, fun j c hj => by omega⟩
  case round =>
    obtain ⟨k, hk, rfl, hm⟩ := hrel
    by_cases hlt : k < s.size
    · have hc := byte_at hlt
      obtain ⟨c, hcc⟩ : ∃ c, s[k]'hlt = c := ⟨_, rfl⟩
      rw [hcc] at hc
      have HC := hide hc; clear hc
      have hnc : Dg.numC c = decide ((48 ≤ c.toNat ∧ c.toNat ≤ 57) ∨ (97 ≤ c.toNat ∧ c.toNat ≤ 122)) := by
        unfold Dg.numC
        simp [UInt8.le_iff_toNat_le]
      rcases byte_cls c with ⟨b0, b1, hl⟩ | ⟨b0, b1, hl⟩ | ⟨b0, hl, hd⟩ | ⟨b0, b1, hl, hd⟩ | ⟨b0, hl, hd⟩ | ⟨b0, b1, hl, hd⟩ | ⟨b0, b1, b2, hl, hd⟩ | ⟨b0, hl, hd⟩
      · skip
        have q0 : 97 ≤ (c.toNat : Int) := by omega
        have q1 : (c.toNat : Int) ≤ 122 := by omega
        have q4 : 48 ≤ (c.toNat : Int) := by omega
        have q5 : ¬ (c.toNat : Int) ≤ 57 := by omega
        have HW := hide (show Dg.numC c = true by rw [hnc]; exact decide_eq_true (by omega))
        clear hnc
        go_wp2
        go_round
        case rel => exact ⟨k + 1, by omega, by go_num, fun j d hj hd => by
          by_cases e : j = k
          · rw [e, HC.out] at hd
            injection hd with hd
            rw [← hd]; exact HW.out
          · exact hm.out j d (by omega) hd⟩
        case measure => simp [intOf]; omega
      · skip
        have q0 : ¬ 97 ≤ (c.toNat : Int) := by omega
        have q1 : (c.toNat : Int) ≤ 122 := by omega
        have q4 : 48 ≤ (c.toNat : Int) := by omega
        have q5 : ¬ (c.toNat : Int) ≤ 57 := by omega
        have E9 := hide (show false = R by
          rw [← HR.out]
          unfold Dg.isNumB
          rw [show (Dg.L s).all Dg.numC = false from List.all_eq_false.2 ⟨c, List.mem_of_getElem? HC.out, by rw [hnc, decide_eq_false (by omega)]; exact Bool.false_ne_true⟩, Bool.and_false])
        clear hnc
        go_wp2
        go_ret
        exact ⟨ret_bool E9.out, rfl⟩
      · skip
        have q0 : ¬ 97 ≤ (c.toNat : Int) := by omega
        have q1 : (c.toNat : Int) ≤ 122 := by omega
        have q4 : 48 ≤ (c.toNat : Int) := by omega
        have q5 : ¬ (c.toNat : Int) ≤ 57 := by omega
        have E9 := hide (show false = R by
          rw [← HR.out]
          unfold Dg.isNumB
          rw [show (Dg.L s).all Dg.numC = false from List.all_eq_false.2 ⟨c, List.mem_of_getElem? HC.out, by rw [hnc, decide_eq_false (by omega)]; exact Bool.false_ne_true⟩, Bool.and_false])
        clear hnc
        go_wp2
        go_ret
        exact ⟨ret_bool E9.out, rfl⟩
      · skip
        have q0 : ¬ 97 ≤ (c.toNat : Int) := by omega
        have q1 : (c.toNat : Int) ≤ 122 := by omega
        have q4 : 48 ≤ (c.toNat : Int) := by omega
        have q5 : (c.toNat : Int) ≤ 57 := by omega
        have HW := hide (show Dg.numC c = true by rw [hnc]; exact decide_eq_true (by omega))
        clear hnc
        go_wp2
        go_round
        case rel => exact ⟨k + 1, by omega, by go_num, fun j d hj hd => by
          by_cases e : j = k
          · rw [e, HC.out] at hd
            injection hd with hd
            rw [← hd]; exact HW.out
          · exact hm.out j d (by omega) hd⟩
        case measure => simp [intOf]; omega
      · skip
        have q0 : ¬ 97 ≤ (c.toNat : Int) := by omega
        have q1 : (c.toNat : Int) ≤ 122 := by omega
        have q4 : ¬ 48 ≤ (c.toNat : Int) := by omega
        have q5 : (c.toNat : Int) ≤ 57 := by omega
        have E9 := hide (show false = R by
          rw [← HR.out]
          unfold Dg.isNumB
          rw [show (Dg.L s).all Dg.numC = false from List.all_eq_false.2 ⟨c, List.mem_of_getElem? HC.out, by rw [hnc, decide_eq_false (by omega)]; exact Bool.false_ne_true⟩, Bool.and_false])
        clear hnc
        go_wp2
        go_ret
        exact ⟨ret_bool E9.out, rfl⟩
      · skip
        have q0 : ¬ 97 ≤ (c.toNat : Int) := by omega
        have q1 : (c.toNat : Int) ≤ 122 := by omega
        have q4 : 48 ≤ (c.toNat : Int) := by omega
        have q5 : ¬ (c.toNat : Int) ≤ 57 := by omega
        have E9 := hide (show false = R by
          rw [← HR.out]
          unfold Dg.isNumB
          rw [show (Dg.L s).all Dg.numC = false from List.all_eq_false.2 ⟨c, List.mem_of_getElem? HC.out, by rw [hnc, decide_eq_false (by omega)]; exact Bool.false_ne_true⟩, Bool.and_false])
        clear hnc
        go_wp2
        go_ret
        exact ⟨ret_bool E9.out, rfl⟩
      · skip
        have q0 : ¬ 97 ≤ (c.toNat : Int) := by omega
        have q1 : (c.toNat : Int) ≤ 122 := by omega
        have q4 : 48 ≤ (c.toNat : Int) := by omega
        have q5 : ¬ (c.toNat : Int) ≤ 57 := by omega
        have E9 := hide (show false = R by
          rw [← HR.out]
          unfold Dg.isNumB
          rw [show (Dg.L s).all Dg.numC = false from List.all_eq_false.2 ⟨c, List.mem_of_getElem? HC.out, by rw [hnc, decide_eq_false (by omega)]; exact Bool.false_ne_true⟩, Bool.and_false])
        clear hnc
        go_wp2
        go_ret
        exact ⟨ret_bool E9.out, rfl⟩
      · skip
        have q0 : 97 ≤ (c.toNat : Int) := by omega
        have q1 : ¬ (c.toNat : Int) ≤ 122 := by omega
        have q4 : 48 ≤ (c.toNat : Int) := by omega
        have q5 : ¬ (c.toNat : Int) ≤ 57 := by omega
        have E9 := hide (show false = R by
          rw [← HR.out]
          unfold Dg.isNumB
          rw [show (Dg.L s).all Dg.numC = false from List.all_eq_false.2 ⟨c, List.mem_of_getElem? HC.out, by rw [hnc, decide_eq_false (by omega)]; exact Bool.false_ne_true⟩, Bool.and_false])
        clear hnc
        go_wp2
        go_ret
        exact ⟨ret_bool E9.out, rfl⟩
    · obtain rfl : k = s.size := by omega
      have hall : (Dg.L s).all Dg.numC = true := List.all_eq_true.2 fun c hc => by
        obtain ⟨j, hj, rfl⟩ := List.mem_iff_getElem.1 hc
        exact hm.out j _ (by rw [← Dg.len_L]; exact hj) (List.getElem?_eq_getElem hj)
      have HE := hide (show decide (s.size ≤ 8) = R by
        rw [← HR.out]
        unfold Dg.isNumB
        rw [hall, Bool.and_true])
      clear hall
      by_cases h8 : s.size ≤ 8
      · have h3 : (s.size : Int) ≤ 8 := by omega
        have E9 := hide (show true = R by rw [← HE.out, decide_eq_true h8])
        clear h8
        go_wp2
        go_ret
        exact ⟨ret_bool E9.out, rfl⟩
      · have h3 : ¬ (s.size : Int) ≤ 8 := by omega
        have E9 := hide (show false = R by rw [← HE.out, decide_eq_false h8])
        clear h8
        go_wp2
        go_ret
        exact ⟨ret_bool E9.out, rfl⟩
end Go.Proofs.YtpldhempbdionaaGreatDoor
/- Valid of the reference. No conditions but those that each theorem states. -/
namespace Go.Proofs.YtpldhempbdionaaGreatDoor
open Go Go.RowKit Go.Sort Go.Maps
theorem valid_no {l : List Dg.It} {k : Nat} (hk : k < l.length) {vs : List (List ByteArray)} {s : Dg.Wk} (hW : Dg.walkTo l k = some (vs, s)) {x : Dg.It} (hx : l[k] = x) (h : Dg.okR l (l.length + 1) k x = false) : Dg.validC l = false := by
  subst hx
  cases hv : Dg.validC l with
  | false => rfl
  | true =>
    obtain ⟨s1, h1, _⟩ := Dg.valid_walk hv
    obtain ⟨s2, h2⟩ := Dg.walk_le (Nat.le_refl _) h1 (k + 1) (by omega)
    obtain ⟨vs0, s0, o0, w0, st0, _⟩ := Dg.walk_step hk h2
    rw [hW] at w0
    injection w0 with w0
    injection w0 with _ w0
    have := Dg.step_ref hk hW (l.length + 1) (by omega)
    rw [w0, st0, h] at this
    cases this
theorem valid_on {l : List Dg.It} {k : Nat} (hk : k < l.length) {vs : List (List ByteArray)} {s : Dg.Wk} (hW : Dg.walkTo l k = some (vs, s)) {x : Dg.It} (hx : l[k] = x) (h : Dg.okR l (l.length + 1) k x = true) : ∃ vs' s', Dg.walkTo l (k + 1) = some (vs', s') := by
  subst hx
  have := Dg.step_ref hk hW (l.length + 1) (by omega)
  rw [h] at this
  rw [Dg.walkTo_succ _ _ hk, hW]
  cases hs : Dg.stepI s l[k] with
  | none => rw [hs] at this; cases this
  | some q => obtain ⟨o, s'⟩ := q; exact ⟨vs ++ [o], s', by simp only [hs]⟩
theorem valid_len {l : List Dg.It} (h : 2000 < l.length) : Dg.validC l = false := by
  unfold Dg.validC
  rw [decide_eq_false (by omega), Bool.and_false]
theorem valid_done {l : List Dg.It} (h : l.length ≤ 2000) {vs : List (List ByteArray)} {s : Dg.Wk} (hW : Dg.walkTo l l.length = some (vs, s)) : Dg.validC l = true := by
  unfold Dg.validC
  rw [hW, decide_eq_true h]
  rfl
/-- A code in its variable with an item. -/
structure CI (g : Nat) (A : Option Addr) (n c : Nat) (l : List Dg.It) (bx : Nat) (x : Dg.It) (X : World) : Prop where
  row : X.heap[g]? = some (.cells #[.slice A n c] 24 (0, 0))
  its : Its X X.heap.size A l
  it : X.heap[bx]? = some (.cells #[.int .i64 x.kind, .string x.id, .string x.parent, .string x.number, .string x.north, .string x.south, .bool x.gone] 31 (0, 0))
theorem CI.below {g : Nat} {A : Option Addr} {n c : Nat} {l : List Dg.It} {bx : Nat} {x : Dg.It} {X X' : World} (h : CI g A n c l bx x X) (hb : Below X.heap.size X X') : CI g A n c l bx x X' := ⟨iNext h.row hb, h.its.keep hb, iNext h.it hb⟩
set_option maxRecDepth 100000 in
set_option maxHeartbeats 16000000 in
theorem rvalidC_of (l : List Dg.It) (A : Option Addr) (n c : Nat) (hl : l.length = n) (hw : ∀ x ∈ l, ItW x) (hn : n ≤ 1048576) (w : World) (hI : Its w w.heap.size A l) (R : Bool) (hR : Dg.validC l = R) :
    Calls Tryz.prog 26 #[.agg #[.slice A n c]] w fun e w' => e = .returned (.bool R) ∧ Below w.heap.size w w' := by
  have hx1 := Below.news (Below.refl w.heap.size w) (.cells #[.slice A n c] 24)
  have hS1 : CR w.heap.size A n c l (w.alloc (.cells #[.slice A n c] 24)) := ⟨heap_alloc_new w _, hI.keep hx1⟩
  have HL := hide hl; have HR := hide hR; have HWW := hide hw
  clear hl hI hR hw
  go_enter Tryz.func26, Tryz.ntmps26
  have hc := iCells0 hS1.row
  by_cases h2 : n ≤ 2000
  · have h2' : ¬ (2000 : Int) < (n : Int) := by omega
    go_wp2
    clear hc h2'
    go_loopw [3] (fun iv wr => ∃ k : Nat, k ≤ n ∧ iv = .int .i64 (k : Int) ∧ Hid (∃ vs s, Dg.walkTo l k = some (vs, s)) ∧ CR w.heap.size A n c l wr ∧ Below w.heap.size w wr) (fun iv _ => n - (intOf iv).toNat)
    case atStart => exact ⟨0, by omega, rfl, ⟨_, _, rfl⟩, hS1, hx1⟩
    case round =>
      clear hS1 hx1
      obtain ⟨k, hk, rfl, hwk, hS, hb⟩ := hrel
      have hc := iCells0 hS.row
      by_cases hlt : k < n
      · have hkn : (k : Int) < (n : Int) := by omega
        have hk0 : (0 : Int) ≤ (k : Int) := by omega
        have hkl : k < l.length := by rw [HL.out]; exact hlt
        obtain ⟨b, off, rfl⟩ := hS.its.some hkl
        obtain ⟨x, hx⟩ : ∃ x, l[k] = x := ⟨_, rfl⟩
        obtain ⟨vs, s, hW⟩ := hwk.out
        obtain ⟨_, p0, p1, p2, p3, p4, p5, p6⟩ := hS.its.cells hkl x hx
        have hxw : ItW x := by rw [← hx]; exact HWW.out _ (List.getElem_mem hkl)
        have hiz := hxw.iz; have hnz := hxw.nz
        obtain ⟨P, hP⟩ : ∃ P, (Dg.kOf s.op l[k].parent).isSome = P := ⟨_, rfl⟩
        have hpr : Dg.placeR l (l.length + 1) k x.parent = P := by rw [← hP, ← hx]; exact Dg.place_eq (by omega) hW (l.length + 1) (by omega) l[k].parent
        obtain ⟨N1, hN1⟩ : ∃ N1, Dg.isNameB x.id = N1 := ⟨_, rfl⟩
        obtain ⟨N2, hN2⟩ : ∃ N2, Dg.isNumB x.number = N2 := ⟨_, rfl⟩
        have hfind : (Dg.inB ((l.take k).map Dg.It.id) x.id = true ∧ ∃ t : Nat, findX l x.id = (t : Int) ∧ t ≠ k) ∨ (Dg.inB ((l.take k).map Dg.It.id) x.id = false ∧ findX l x.id = (k : Int)) := by
          cases hin : Dg.inB ((l.take k).map Dg.It.id) x.id with
          | true =>
            obtain ⟨z, hz, e⟩ := List.mem_map.1 ((Dg.inB_iff _ _).1 hin)
            obtain ⟨t, ht, rfl⟩ := List.mem_take_iff_getElem.1 hz
            exact Or.inl ⟨rfl, t, by rw [← e]; exact findX_walk (by omega) hW (by omega), by omega⟩
          | false => exact Or.inr ⟨rfl, findX_at hkl (by rw [hx]) fun y hy e => (Dg.inB_no _ _).1 hin (List.mem_map.2 ⟨y, hy, e⟩)⟩
        have HX := hide hx; have HW := hide hW; have HP := hide hP; have HPR := hide hpr; have HN1 := hide hN1; have HN2 := hide hN2; have HFD := hide hfind
        clear hx hW hP hpr hN1 hN2 hfind hwk hxw
        go_upto_region 7 with (fail)
        have hx2 := Below.news (Below.refl wr.heap.size wr) (.cells #[.int .i64 x.kind, .string x.id, .string x.parent, .string x.number, .string x.north, .string x.south, .bool x.gone] 31)
        have hS0 : CI w.heap.size (some ⟨b, off, none⟩) n c l wr.heap.size x (wr.alloc (.cells #[.int .i64 x.kind, .string x.id, .string x.parent, .string x.number, .string x.north, .string x.south, .bool x.gone] 31)) := ⟨iNext hS.row hx2, hS.its.keep hx2, heap_alloc_new wr (.cells #[.int .i64 x.kind, .string x.id, .string x.parent, .string x.number, .string x.north, .string x.south, .bool x.gone] 31)⟩
        have hb0 := bnext hb hx2
        clear hS hb hx2 hc p0 p1 p2 p3 p4 p5 p6
        generalize wr.alloc (.cells #[.int .i64 x.kind, .string x.id, .string x.parent, .string x.number, .string x.north, .string x.south, .bool x.gone] 31) = w0 at *
        generalize wr.heap.size = bx at *
        have hc := iCells0 hS0.row
        obtain ⟨c0, c1, c2, c3, c4, c5, c6⟩ := iCells hS0.it
        go_wp2_with fail
        refine (rname_of x.id N1 HN1.out hiz w0).mono ?_
        rintro e w1 ⟨rfl, rfl⟩
        cases N1 with
        | false =>
          have E9 := hide (show false = R by rw [← HR.out]; exact (valid_no hkl HW.out HX.out (by unfold Dg.okR; simp only [HN1.out, Bool.false_and])).symm)
          go_wp2
          go_ret
          exact ⟨ret_bool E9.out, hb0⟩
        | true =>
          rcases HFD.out with ⟨hin, t, hft, htk⟩ | ⟨hin, hft⟩
          · have HFT := hide hft
            have htk2 : ((t : Int) == (k : Int)) = false := beq_eq_false_iff_ne.2 (by omega)
            have htk3 : ((t : Int) != (k : Int)) = true := by rw [bne, htk2]; rfl
            clear hft htk htk2
            have E9 := hide (show false = R by rw [← HR.out]; exact (valid_no hkl HW.out HX.out (by unfold Dg.okR; simp only [hin, Bool.not_true, Bool.false_and, Bool.and_false])).symm)
            clear hin
            go_wp2_with fail
            refine (rfind_of l (some ⟨b, off, none⟩) n c HL.out (by omega) x.id w1 hS0.its (t : Int) HFT.out).mono ?_
            rintro e w2 ⟨rfl, hx2⟩
            have hS2 := hS0.below hx2
            have hb2 := bnext hb0 hx2
            clear hS0 hb0 hx2
            try clear hc c0 c1 c2 c3 c4 c5 c6
            go_wp2
            go_ret
            exact ⟨ret_bool E9.out, hb2⟩
          · have HFT := hide hft; have HIN := hide hin
            clear hft hin
            go_wp2_with fail
            refine (rfind_of l (some ⟨b, off, none⟩) n c HL.out (by omega) x.id w1 hS0.its (k : Int) HFT.out).mono ?_
            rintro e w3 ⟨rfl, hx3⟩
            have hS3 := hS0.below hx3
            have hb3 := bnext hb0 hx3
            clear hS0 hb0 hx3
            try clear hc c0 c1 c2 c3 c4 c5 c6
            have hc := iCells0 hS3.row
            obtain ⟨c0, c1, c2, c3, c4, c5, c6⟩ := iCells hS3.it
            go_wp2_with fail
            refine (rnum_of x.number N2 HN2.out hnz w3).mono ?_
            rintro e w9_ ⟨rfl, rfl⟩
            cases N2 with
            | false =>
              have E9 := hide (show false = R by rw [← HR.out]; exact (valid_no hkl HW.out HX.out (by unfold Dg.okR; simp only [HN2.out, Bool.false_and, Bool.and_false])).symm)
              go_wp2
              go_ret
              exact ⟨ret_bool E9.out, hb3⟩
            | true =>
              have hne : x.north.toList.isEmpty = decide (x.north = Dg.nil8) := (emp_iff _).symm
              have hse : x.south.toList.isEmpty = decide (x.south = Dg.nil8) := (emp_iff _).symm
              by_cases k1 : x.kind = 1
              · have kb1 : (x.kind == 1) = true := beq_iff_eq.2 k1
                have kc1 : (x.kind != 1) = false := by rw [bne, kb1]; rfl
                have dk1 : decide (x.kind = 1) = true := decide_eq_true k1
                have DK := hide dk1
                clear k1 dk1
                cases hN : decide (x.north = Dg.nil8) with
                | false =>
                  rw [hN] at hne
                  have E9 := hide (show false = R by rw [← HR.out]; exact (valid_no hkl HW.out HX.out (by unfold Dg.okR; simp only [DK.out, hN, Bool.not_true, Bool.not_false, Bool.true_and, Bool.false_and, Bool.and_false, Bool.true_or, Bool.and_true])).symm)
                  clear hN
                  go_wp2
                  go_ret
                  exact ⟨ret_bool E9.out, hb3⟩
                | true =>
                  rw [hN] at hne
                  cases hS9 : decide (x.south = Dg.nil8) with
                  | false =>
                    rw [hS9] at hse
                    have E9 := hide (show false = R by rw [← HR.out]; exact (valid_no hkl HW.out HX.out (by unfold Dg.okR; simp only [DK.out, hN, hS9, Bool.not_true, Bool.not_false, Bool.true_and, Bool.false_and, Bool.and_false, Bool.true_or, Bool.or_true, Bool.and_true])).symm)
                    clear hN hS9
                    go_wp2
                    go_ret
                    exact ⟨ret_bool E9.out, hb3⟩
                  | true =>
                    rw [hS9] at hse
                    cases hg : x.gone with
                    | true =>
                      rw [hg] at c6
                      have E9 := hide (show false = R by rw [← HR.out]; exact (valid_no hkl HW.out HX.out (by unfold Dg.okR; simp only [DK.out, hN, hS9, hg, Bool.not_true, Bool.true_and, Bool.false_and, Bool.and_false, Bool.true_or, Bool.or_true, Bool.and_true])).symm)
                      clear hN hS9 hg
                      go_wp2
                      go_ret
                      exact ⟨ret_bool E9.out, hb3⟩
                    | false =>
                      rw [hg] at c6
                      have hz4 : ¬ (400 : Int) < (x.north.size : Int) := by rw [of_decide_eq_true hN]; decide
                      have hz5 : ¬ (400 : Int) < (x.south.size : Int) := by rw [of_decide_eq_true hS9]; decide
                      have HOKP := hide (show Dg.okR l (l.length + 1) k x = P by
                        unfold Dg.okR
                        rw [HPR.out]
                        simp only [HN1.out, HIN.out, HN2.out, DK.out, hN, hS9, hg, decide_eq_true (show x.north.size ≤ 400 by rw [of_decide_eq_true hN]; decide), decide_eq_true (show x.south.size ≤ 400 by rw [of_decide_eq_true hS9]; decide), Bool.not_true, Bool.not_false, Bool.true_and, Bool.and_false, Bool.true_or, Bool.or_false])
                      clear hN hS9 hg
                      go_wp2_with fail
                      refine (place_of l (some ⟨b, off, none⟩) n c HL.out (by omega) w9_ hS3.its k hkl vs s HW.out P HP.out).mono ?_
                      rintro e w4 ⟨rfl, hx4⟩
                      have hS4 := hS3.below hx4
                      have hb4 := bnext hb3 hx4
                      clear hS3 hb3 hx4
                      try clear hc c0 c1 c2 c3 c4 c5 c6
                      cases P with
                      | false =>
                        have E9 := hide (show false = R by rw [← HR.out]; exact (valid_no hkl HW.out HX.out HOKP.out).symm)
                        go_wp2
                        go_ret
                        exact ⟨ret_bool E9.out, hb4⟩
                      | true =>
                        have HS := hS4
                        go_wp2
                        go_roundw
                        case rel => exact ⟨k + 1, by omega, by go_num, valid_on hkl HW.out HX.out HOKP.out, ⟨HS.row, HS.its⟩, hb4⟩
                        case measure => simp [intOf]; omega
              · have kb1 : (x.kind == 1) = false := beq_eq_false_iff_ne.2 k1
                have kc1 : (x.kind != 1) = true := by rw [bne, kb1]; rfl
                have dk1 : decide (x.kind = 1) = false := decide_eq_false k1
                have DK := hide dk1
                clear dk1
                by_cases k2 : x.kind = 2
                · have kb2 : (x.kind == 2) = true := beq_iff_eq.2 k2
                  have kc2 : (x.kind != 2) = false := by rw [bne, kb2]; rfl
                  have dk2 : decide (x.kind = 2) = true := decide_eq_true k2
                  have DK2 := hide dk2
                  clear k1 k2 dk2
                  by_cases z4 : x.north.size ≤ 400
                  · by_cases z5 : x.south.size ≤ 400
                    · skip
                      have hz4 : ¬ (400 : Int) < (x.north.size : Int) := by omega
                      have hz5 : ¬ (400 : Int) < (x.south.size : Int) := by omega
                      have HOKP := hide (show Dg.okR l (l.length + 1) k x = P by
                        unfold Dg.okR
                        rw [HPR.out]
                        simp only [HN1.out, HIN.out, HN2.out, DK.out, DK2.out, decide_eq_true (show x.north.size ≤ 400 by omega), decide_eq_true (show x.south.size ≤ 400 by omega), Bool.not_false, Bool.true_and, Bool.false_and, Bool.or_true])
                      clear z4 z5
                      go_wp2_with fail
                      refine (place_of l (some ⟨b, off, none⟩) n c HL.out (by omega) w9_ hS3.its k hkl vs s HW.out P HP.out).mono ?_
                      rintro e w5 ⟨rfl, hx5⟩
                      have hS5 := hS3.below hx5
                      have hb5 := bnext hb3 hx5
                      clear hS3 hb3 hx5
                      try clear hc c0 c1 c2 c3 c4 c5 c6
                      cases P with
                      | false =>
                        have E9 := hide (show false = R by rw [← HR.out]; exact (valid_no hkl HW.out HX.out HOKP.out).symm)
                        go_wp2
                        go_ret
                        exact ⟨ret_bool E9.out, hb5⟩
                      | true =>
                        have HS := hS5
                        go_wp2
                        go_roundw
                        case rel => exact ⟨k + 1, by omega, by go_num, valid_on hkl HW.out HX.out HOKP.out, ⟨HS.row, HS.its⟩, hb5⟩
                        case measure => simp [intOf]; omega
                    · have hz4 : ¬ (400 : Int) < (x.north.size : Int) := by omega
                      have hz5 : (400 : Int) < (x.south.size : Int) := by omega
                      have dz : decide (x.south.size ≤ 400) = false := decide_eq_false z5
                      have E9 := hide (show false = R by rw [← HR.out]; exact (valid_no hkl HW.out HX.out (by unfold Dg.okR; simp only [dz, Bool.false_and, Bool.and_false])).symm)
                      clear z4 z5 dz
                      go_wp2
                      go_ret
                      exact ⟨ret_bool E9.out, hb3⟩
                  · have hz4 : (400 : Int) < (x.north.size : Int) := by omega
                    have dz : decide (x.north.size ≤ 400) = false := decide_eq_false z4
                    have E9 := hide (show false = R by rw [← HR.out]; exact (valid_no hkl HW.out HX.out (by unfold Dg.okR; simp only [dz, Bool.false_and, Bool.and_false])).symm)
                    clear z4 dz
                    go_wp2
                    go_ret
                    exact ⟨ret_bool E9.out, hb3⟩
                · have kb2 : (x.kind == 2) = false := beq_eq_false_iff_ne.2 k2
                  have kc2 : (x.kind != 2) = true := by rw [bne, kb2]; rfl
                  have dk2 : decide (x.kind = 2) = false := decide_eq_false k2
                  have E9 := hide (show false = R by rw [← HR.out]; exact (valid_no hkl HW.out HX.out (by unfold Dg.okR; simp only [DK.out, dk2, Bool.not_false, Bool.false_and, Bool.and_false, Bool.or_false])).symm)
                  clear k1 k2 dk2
                  go_wp2
                  go_ret
                  exact ⟨ret_bool E9.out, hb3⟩
      · obtain rfl : k = n := by omega
        have E9 := hide (show true = R by
          rw [← HR.out]
          obtain ⟨vs, s, hW⟩ := hwk.out
          exact (valid_done (by have := HL.out; omega) (by rw [HL.out]; exact hW)).symm)
        go_wp2
        go_ret
        exact ⟨ret_bool E9.out, hb⟩
  · have h2' : (2000 : Int) < (n : Int) := by omega
    have E9 := hide (show false = R by rw [← HR.out]; exact (valid_len (by have := HL.out; omega)).symm)
    go_wp2
    go_ret
    exact ⟨ret_bool E9.out, hx1⟩
end Go.Proofs.YtpldhempbdionaaGreatDoor
/- The lines of package code's Text. No conditions but those that each theorem states. -/
namespace Go.Proofs.YtpldhempbdionaaGreatDoor
open Go Go.RowKit Go.Sort Go.Maps
/-- A text, or a dash. -/
def orS (s : ByteArray) : ByteArray := if s = Dg.nil8 then ⟨#[45]⟩ else s
theorem L_orS (s : ByteArray) : Dg.L (orS s) = Dg.orL (Dg.L s) := by
  unfold orS Dg.orL
  by_cases h : s = Dg.nil8
  · rw [if_pos h, if_pos (by rw [h]; rfl)]; rfl
  · rw [if_neg h, if_neg (show ¬ Dg.L s = [] from fun e => h (Dg.L_inj e))]
theorem join_words : ∀ ws : List (List UInt8), Lib.join ws [32] = Dg.joinW ws
  | [] => rfl
  | [a] => by unfold Lib.join Dg.joinW; simp [List.intercalate]
  | a :: b :: r => by
    have ih := join_words (b :: r)
    unfold Dg.joinW
    rw [← ih]
    unfold Lib.join
    simp [List.intercalate]
theorem BldStep.after {bb n0 : Nat} {W W1 W' : World} {v : Value} {l' : List UInt8} (h : BldStep bb n0 W1 W' v l') (hb : Below W.heap.size W W1) : BldStep bb n0 W W' v l' := by
  obtain ⟨v', h1, h2, h3⟩ := h
  exact ⟨v', h1, (Off.of_below hb).trans h2 (fun _ h => Or.inl h), fun g hg => (h3 g hg).imp id (fun h => Nat.le_trans hb.size h)⟩
theorem bw_len {l : List UInt8} {J : ByteArray} {n : Nat} (h1 : l.length + n ≤ 2199023255552) (h2 : J.size + 1 = n) : l.length + (J ++ ⟨#[10]⟩).size ≤ 2199023255552 := by
  have h3 : (J ++ ⟨#[10]⟩).size = J.size + 1 := by rw [ByteArray.size_append]; rfl
  rw [h3, h2]
  exact h1
theorem own_row4 {w : World} {B g : Nat} (hB : B ≤ g) {a b c d : ByteArray} (h : w.heap[g]? = some (.cells #[.string a, .string b, .string c, .string d] 9 (0, 0))) : OwnS w B (.slice (some ⟨g, 0, none⟩) 4 4) [a, b, c, d] :=
  ⟨by simp, Or.inr ⟨g, 4, _, rfl, hB, h, Nat.le_refl _, by unfold maxLen; omega, rfl, rfl⟩⟩
theorem row4_get {w : World} {g : Nat} {a b c d : ByteArray} (h : w.heap[g]? = some (.cells #[.string a, .string b, .string c, .string d] 9 (0, 0))) : ∀ (j : Nat) x, [a, b, c, d][j]? = some x → w.cell? ⟨g, 0 + j, none⟩ = some (.string x) := fun j s hj => by
  rw [cell_of_row _ _ _ _ _ (0, 0) h, Nat.zero_add, ← Array.getElem?_toList]
  have h9 : ([a, b, c, d].map Value.string)[j]? = some (.string s) := by rw [List.getElem?_map, hj]; rfl
  exact h9
set_option maxRecDepth 100000 in
set_option maxHeartbeats 8000000 in
theorem text1_any (x : Dg.It) (hkd : x.kind = 1 ∨ x.kind = 2) (hz : ∀ s ∈ Dg.fieldsI x, s.size ≤ 1073741824) (bb n0 : Nat) (hbb : bb < n0) (v : Value) (l : List UInt8) (w : World) (h : BldAt bb n0 w v l) (hlen : l.length + (Dg.lineL x).length ≤ 2199023255552) (hn : n0 ≤ w.heap.size) (R : List UInt8) (hR : l ++ Dg.lineL x = R) :
    Calls Tryz.prog 49 #[.agg #[.int .i64 x.kind, .string x.id, .string x.parent, .string x.number, .string x.north, .string x.south, .bool x.gone], .pointer (some ⟨bb, 0, none⟩)] w fun e w' => e = .returned (.tuple #[]) ∧ BldStep bb n0 w w' v R := by
  have HR := hide hR; have HZ := hide hz; have HB := hide h; have HKD := hide hkd; have HLEN := hide hlen
  clear hR hz h hkd hlen
  have hx1 := Below.news (Below.refl w.heap.size w) (.cells #[.int .i64 x.kind, .string x.id, .string x.parent, .string x.number, .string x.north, .string x.south, .bool x.gone] 31)
  have hrow := heap_alloc_new w (.cells #[.int .i64 x.kind, .string x.id, .string x.parent, .string x.number, .string x.north, .string x.south, .bool x.gone] 31)
  have hsz1 : (w.alloc (.cells #[.int .i64 x.kind, .string x.id, .string x.parent, .string x.number, .string x.north, .string x.south, .bool x.gone] 31)).heap.size = w.heap.size + 1 := by simp
  go_enter Tryz.func49, Tryz.ntmps49
  go_upto_region 1 with (fail)
  obtain ⟨c0, c1, c2, c3, c4, c5, c6⟩ := iCells hrow
  generalize w.alloc (.cells #[.int .i64 x.kind, .string x.id, .string x.parent, .string x.number, .string x.north, .string x.south, .bool x.gone] 31) = w1 at *
  go_upto_region 2 with (fail)
  have hx2 := bnext hx1 (Below.news (Below.refl w1.heap.size w1) (.cells #[.string ⟨#[97, 114, 116, 105, 99, 108, 101]⟩, .string x.id, .string x.parent, .string x.number] 9))
  have hrow2 := heap_alloc_new w1 (.cells #[.string ⟨#[97, 114, 116, 105, 99, 108, 101]⟩, .string x.id, .string x.parent, .string x.number] 9)
  have hrow1 := iNext hrow (Below.news (Below.refl w1.heap.size w1) (.cells #[.string ⟨#[97, 114, 116, 105, 99, 108, 101]⟩, .string x.id, .string x.parent, .string x.number] 9))
  rw [hsz1] at hrow2
  generalize w1.alloc (.cells #[.string ⟨#[97, 114, 116, 105, 99, 108, 101]⟩, .string x.id, .string x.parent, .string x.number] 9) = w2 at *
  clear c0 c1 c2 c3 c4 c5 c6 hrow hx1 hsz1
  go_wp2
  go_loopw [4] (fun kv wr => ∃ P Q, ((kv = .int .i64 2 ∧ P = x.parent ∧ Q = x.number) ∨ (kv = .int .i64 3 ∧ P = orS x.parent ∧ Q = x.number) ∨ (kv = .int .i64 4 ∧ P = orS x.parent ∧ Q = orS x.number)) ∧ wr.heap[w.heap.size + 1]? = some (.cells #[.string ⟨#[97, 114, 116, 105, 99, 108, 101]⟩, .string x.id, .string P, .string Q] 9 (0, 0)) ∧ wr.heap[w.heap.size]? = some (.cells #[.int .i64 x.kind, .string x.id, .string x.parent, .string x.number, .string x.north, .string x.south, .bool x.gone] 31 (0, 0)) ∧ Below w.heap.size w wr) (fun kv _ => 4 - (intOf kv).toNat)
  case atStart => exact ⟨_, _, Or.inl ⟨rfl, rfl, rfl⟩, hrow2, hrow1, hx2⟩
  case round =>
    obtain ⟨P, Q, hk, hr2, hr1, hb⟩ := hrel
    clear hrow2 hrow1 hx2
    have w3 : wr.cell? ⟨w.heap.size + 1, 2, none⟩ = some (.string P) := by rw [cell_of_row _ _ _ _ _ (0, 0) hr2]; rfl
    have w4 : wr.cell? ⟨w.heap.size + 1, 3, none⟩ = some (.string Q) := by rw [cell_of_row _ _ _ _ _ (0, 0) hr2]; rfl
    rcases hk with ⟨rfl, hP, hQ⟩ | ⟨rfl, hP, hQ⟩ | ⟨rfl, hP, hQ⟩
    · have fz := frozen_of_row _ (w.heap.size + 1) 2 _ _ hr2
      have hpe : P.toList.isEmpty = decide (P = Dg.nil8) := (emp_iff _).symm
      have HP := hide hP; have HQ := hide hQ
      clear hP hQ
      by_cases hp : P = Dg.nil8
      · have e1 : P.toList.isEmpty = true := hpe.trans (decide_eq_true hp)
        have HE := hide hp
        clear hp hpe
        go_wp2
        go_roundw
        case rel => exact ⟨⟨#[45]⟩, Q, Or.inr (Or.inl ⟨rfl, by rw [← HP.out]; unfold orS; rw [if_pos HE.out], HQ.out⟩), setCell_rowN hr2 2 _, (Below.heap_setCell _ _ _ _ (show w.heap.size ≠ w.heap.size + 1 by omega)).trans hr1, hb.setCell (p := ⟨w.heap.size + 1, 2, none⟩) (show w.heap.size ≤ w.heap.size + 1 by omega) _⟩
        case measure => simp [intOf]
      · have e1 : P.toList.isEmpty = false := hpe.trans (decide_eq_false hp)
        have HE := hide hp
        clear hp hpe
        go_wp2
        go_roundw
        case rel => exact ⟨P, Q, Or.inr (Or.inl ⟨rfl, by unfold orS; rw [← HP.out, if_neg HE.out], HQ.out⟩), hr2, hr1, hb⟩
        case measure => simp [intOf]
    · have fz := frozen_of_row _ (w.heap.size + 1) 3 _ _ hr2
      have hpe : Q.toList.isEmpty = decide (Q = Dg.nil8) := (emp_iff _).symm
      have HP := hide hP; have HQ := hide hQ
      clear hP hQ
      by_cases hp : Q = Dg.nil8
      · have e1 : Q.toList.isEmpty = true := hpe.trans (decide_eq_true hp)
        have HE := hide hp
        clear hp hpe
        go_wp2
        go_roundw
        case rel => exact ⟨P, ⟨#[45]⟩, Or.inr (Or.inr ⟨rfl, HP.out, by rw [← HQ.out]; unfold orS; rw [if_pos HE.out]⟩), setCell_rowN hr2 3 _, (Below.heap_setCell _ _ _ _ (show w.heap.size ≠ w.heap.size + 1 by omega)).trans hr1, hb.setCell (p := ⟨w.heap.size + 1, 3, none⟩) (show w.heap.size ≤ w.heap.size + 1 by omega) _⟩
        case measure => simp [intOf]
      · have e1 : Q.toList.isEmpty = false := hpe.trans (decide_eq_false hp)
        have HE := hide hp
        clear hp hpe
        go_wp2
        go_roundw
        case rel => exact ⟨P, Q, Or.inr (Or.inr ⟨rfl, HP.out, by unfold orS; rw [← HQ.out, if_neg HE.out]⟩), hr2, hr1, hb⟩
        case measure => simp [intOf]
    · skip
      have HP := hide hP; have HQ := hide hQ
      clear hP hQ
      have w5 : wr.cell? ⟨w.heap.size + 1, 0, none⟩ = some (.string ⟨#[97, 114, 116, 105, 99, 108, 101]⟩) := by rw [cell_of_row _ _ _ _ _ (0, 0) hr2]; rfl
      have fz := frozen_of_row _ (w.heap.size + 1) 0 _ _ hr2
      obtain ⟨c0, c1, c2, c3, c4, c5, c6⟩ := iCells hr1
      rcases HKD.out with kz | kz
      · skip
        rw [kz] at c0
        go_upto_region 11 with (fail)
        have hr4 := setCell_rowN hr2 0 (.string ⟨#[100, 105, 118, 105, 115, 105, 111, 110]⟩)
        have hr5 : (wr.setCell ⟨w.heap.size + 1, 0, none⟩ (.string ⟨#[100, 105, 118, 105, 115, 105, 111, 110]⟩)).heap[w.heap.size]? = some (.cells #[.int .i64 x.kind, .string x.id, .string x.parent, .string x.number, .string x.north, .string x.south, .bool x.gone] 31 (0, 0)) := (Below.heap_setCell _ _ _ _ (show w.heap.size ≠ w.heap.size + 1 by omega)).trans hr1
        have hb4 := hb.setCell (p := ⟨w.heap.size + 1, 0, none⟩) (show w.heap.size ≤ w.heap.size + 1 by omega) (.string ⟨#[100, 105, 118, 105, 115, 105, 111, 110]⟩)
        clear c0 c1 c2 c3 c4 c5 c6 fz w3 w4 w5
        generalize wr.setCell ⟨w.heap.size + 1, 0, none⟩ (.string ⟨#[100, 105, 118, 105, 115, 105, 111, 110]⟩) = u4 at *
        obtain ⟨c0, c1, c2, c3, c4, c5, c6⟩ := iCells hr5
        rw [kz] at c0
        go_wp2_with fail
        have hJ : Lib.join (([⟨#[100, 105, 118, 105, 115, 105, 111, 110]⟩, x.id, P, Q] : List ByteArray).map (·.data.toList)) (⟨#[32]⟩ : ByteArray).data.toList = Dg.joinW (Dg.wordsI x) := by
          rw [show (⟨#[32]⟩ : ByteArray).data.toList = [32] from rfl, join_words]
          refine congrArg Dg.joinW ?_
          unfold Dg.wordsI
          rw [if_pos kz]
          rw [← L_orS, ← L_orS, ← HP.out, ← HQ.out]
          
          rfl
        have hjl : (Dg.lineL x).length = (Dg.joinW (Dg.wordsI x)).length + 1 := by unfold Dg.lineL; rw [List.length_append, List.length_singleton]
        have hjz : (Lib.join (([⟨#[100, 105, 118, 105, 115, 105, 111, 110]⟩, x.id, P, Q] : List ByteArray).map (·.data.toList)) (⟨#[32]⟩ : ByteArray).data.toList).length ≤ 140737488355328 := by
          have := HLEN.out
          rw [hJ]; omega
        refine (Tryz.strings_Join (w.heap.size + 1) 0 4 [⟨#[100, 105, 118, 105, 115, 105, 111, 110]⟩, x.id, P, Q] ⟨#[32]⟩ u4 (row4_get hr4) (lt_of_block hr4) (by simp) (by simp) hjz).mono ?_
        rintro e u7 ⟨rfl, hb7⟩
        obtain ⟨JW, hJW⟩ : ∃ JW : ByteArray, (⟨(Lib.join (([⟨#[100, 105, 118, 105, 115, 105, 111, 110]⟩, x.id, P, Q] : List ByteArray).map (·.data.toList)) (⟨#[32]⟩ : ByteArray).data.toList).toArray⟩ : ByteArray) = JW := ⟨_, rfl⟩
        rw [hJW]
        have hJL : Dg.L JW = Dg.joinW (Dg.wordsI x) := by rw [← hJW, ← hJ]; rfl
        have hJS : JW.size + 1 = (Dg.lineL x).length := by rw [← Dg.len_L, hJL, hjl]
        clear hJW hJ hjl hjz
        have HJL := hide hJL
        clear hJL
        have hb8 := bnext hb4 hb7
        have hJSz : JW.size ≤ 2199023255552 := by have := HLEN.out; omega
        have HJS := hide hJS
        clear hJS
        go_wp2_with fail
        have hw1 := HB.out.next hb8
        have hw2 := bw_len HLEN.out HJS.out
        have hw3 := Nat.le_trans hn hb8.size
        have hw := bwrite_any bb n0 hbb (JW ++ ⟨#[10]⟩) v l u7 hw1 hw2 hw3
        refine hw.mono ?_
        clear hw hw1 hw2 hw3
        rintro e u8 ⟨⟨rr, rfl⟩, hstep⟩
        rw [L_app, HJL.out, show Dg.joinW (Dg.wordsI x) ++ Dg.L ⟨#[10]⟩ = Dg.lineL x from rfl, HR.out] at hstep
        go_wp2
        go_end0
        exact ⟨rfl, hstep.after hb8⟩
      · cases hgo : x.gone with
        | true =>
          rw [kz] at c0
          rw [hgo] at c6
          go_upto_region 11 with (fail)
          have hr4 := setCell_rowN hr2 0 (.string ⟨#[114, 101, 112, 101, 97, 108, 101, 100]⟩)
          have hr5 : (wr.setCell ⟨w.heap.size + 1, 0, none⟩ (.string ⟨#[114, 101, 112, 101, 97, 108, 101, 100]⟩)).heap[w.heap.size]? = some (.cells #[.int .i64 x.kind, .string x.id, .string x.parent, .string x.number, .string x.north, .string x.south, .bool x.gone] 31 (0, 0)) := (Below.heap_setCell _ _ _ _ (show w.heap.size ≠ w.heap.size + 1 by omega)).trans hr1
          have hb4 := hb.setCell (p := ⟨w.heap.size + 1, 0, none⟩) (show w.heap.size ≤ w.heap.size + 1 by omega) (.string ⟨#[114, 101, 112, 101, 97, 108, 101, 100]⟩)
          clear c0 c1 c2 c3 c4 c5 c6 fz w3 w4 w5
          generalize wr.setCell ⟨w.heap.size + 1, 0, none⟩ (.string ⟨#[114, 101, 112, 101, 97, 108, 101, 100]⟩) = u4 at *
          obtain ⟨c0, c1, c2, c3, c4, c5, c6⟩ := iCells hr5
          rw [kz] at c0
          go_upto_region 12 with (fail)
          clear c0 c1 c2 c3 c4 c5 c6
          have hmx : Tryz.prog.follows .mixedOrders = true := by kernel_rfl
          refine wp_region_noPanic ?_
          refine wp_region_L (fun X_ : World => X_.heap[w.heap.size + 1]? = some (.cells #[.string ⟨#[114, 101, 112, 101, 97, 108, 101, 100]⟩, .string x.id, .string P, .string Q] 9 (0, 0)) ∧ X_.heap[w.heap.size]? = some (.cells #[.int .i64 x.kind, .string x.id, .string x.parent, .string x.number, .string x.north, .string x.south, .bool x.gone] 31 (0, 0))) 8 hmx ?_
          have hb5 : Below w.heap.size w u4.drew := bnext hb4 (Below.refl u4.heap.size u4).drew
          have hHeld : (fun X_ : World => X_.heap[w.heap.size + 1]? = some (.cells #[.string ⟨#[114, 101, 112, 101, 97, 108, 101, 100]⟩, .string x.id, .string P, .string Q] 9 (0, 0)) ∧ X_.heap[w.heap.size]? = some (.cells #[.int .i64 x.kind, .string x.id, .string x.parent, .string x.number, .string x.north, .string x.south, .bool x.gone] 31 (0, 0))) u4.drew := ⟨hr4, hr5⟩
          clear hr4 hr5
          generalize u4.drew = u5 at *
          clear hb4
          refine wpAnyL_take (i := 0) (f0 := 12) (v := ?_) rfl (by decide +kernel) (by decide +kernel) (by decide +kernel) (by decide +kernel) (by decide +kernel) (fun _ _ _ h => h) (Or.inl ⟨by rfl, ?_⟩) hHeld ?_
          rotate_left
          · intro wS hS; obtain ⟨hS1, hS2⟩ := hS; go_simp; (try with_reducible rfl)
          simp only [Act.put, List.getElem_toArray, List.getElem_cons_zero, List.setIfInBounds_toArray, List.set_cons_succ, List.set_cons_zero]
          refine wpAnyL_take (i := 1) (f0 := 12) (v := ?_) rfl (by decide +kernel) (by decide +kernel) (by decide +kernel) (by decide +kernel) (by decide +kernel) (fun _ _ _ h => h) (Or.inl ⟨by rfl, ?_⟩) hHeld ?_
          rotate_left
          · intro wS hS; obtain ⟨hS1, hS2⟩ := hS; go_simp; (try with_reducible rfl)
          simp only [Act.put, List.getElem_toArray, List.getElem_cons_succ, List.getElem_cons_zero, List.setIfInBounds_toArray, List.set_cons_succ, List.set_cons_zero]
          refine wpAnyL_take (i := 2) (f0 := 12) (v := ?_) rfl (by decide +kernel) (by decide +kernel) (by decide +kernel) (by decide +kernel) (by decide +kernel) (fun _ _ _ h => h) (Or.inl ⟨by rfl, ?_⟩) hHeld ?_
          rotate_left
          · intro wS hS; obtain ⟨hS1, hS2⟩ := hS; obtain ⟨c0, c1, c2, c3, c4, c5, c6⟩ := iCells hS2; go_simp; (try with_reducible rfl)
          simp only [Act.put, List.getElem_toArray, List.getElem_cons_succ, List.getElem_cons_zero, List.setIfInBounds_toArray, List.set_cons_succ, List.set_cons_zero]
          refine wpAnyL_take (i := 4) (f0 := 12) (v := ?_) rfl (by decide +kernel) (by decide +kernel) (by decide +kernel) (by decide +kernel) (by decide +kernel) (fun _ _ _ h => h) (Or.inl ⟨by rfl, ?_⟩) hHeld ?_
          rotate_left
          · intro wS hS; obtain ⟨hS1, hS2⟩ := hS; go_simp; (try with_reducible rfl)
          simp only [Act.put, List.getElem_toArray, List.getElem_cons_succ, List.getElem_cons_zero, List.setIfInBounds_toArray, List.set_cons_succ, List.set_cons_zero]
          refine wpAnyL_take (i := 5) (f0 := 12) (v := ?_) rfl (by decide +kernel) (by decide +kernel) (by decide +kernel) (by decide +kernel) (by decide +kernel) (fun _ _ _ h => h) (Or.inl ⟨by rfl, ?_⟩) hHeld ?_
          rotate_left
          · intro wS hS; obtain ⟨hS1, hS2⟩ := hS; obtain ⟨c0, c1, c2, c3, c4, c5, c6⟩ := iCells hS2; go_simp; (try with_reducible rfl)
          simp only [Act.put, List.getElem_toArray, List.getElem_cons_succ, List.getElem_cons_zero, List.setIfInBounds_toArray, List.set_cons_succ, List.set_cons_zero]
          refine wpAnyL_one (i := 3) (by decide +kernel) (by rfl) (fun K hK => ?_)
          rw [if_pos (by rfl)]
          go_simp
          refine (quoted_any x.north (HZ.out _ (by unfold Dg.fieldsI; simp)) u5 (Dg.B (Dg.quoteL (Dg.L x.north))) rfl).mono ?_
          rintro e u6 ⟨rfl, hb6⟩
          have hx6 := bnext hb5 hb6
          have hHeld6 : (fun X_ : World => X_.heap[w.heap.size + 1]? = some (.cells #[.string ⟨#[114, 101, 112, 101, 97, 108, 101, 100]⟩, .string x.id, .string P, .string Q] 9 (0, 0)) ∧ X_.heap[w.heap.size]? = some (.cells #[.int .i64 x.kind, .string x.id, .string x.parent, .string x.number, .string x.north, .string x.south, .bool x.gone] 31 (0, 0))) u6 := ⟨iNext hHeld.1 hb6, iNext hHeld.2 hb6⟩
          refine hK.out _ _ (Or.inr hHeld6) ?_
          clear hK K hHeld hb6 hb5
          try simp only [Act.put, List.getElem_toArray, List.getElem_cons_succ, List.getElem_cons_zero, List.setIfInBounds_toArray, List.set_cons_succ, List.set_cons_zero]
          refine wpAnyL_one (i := 6) (by decide +kernel) (by rfl) (fun K hK => ?_)
          rw [if_pos (by rfl)]
          go_simp
          refine (quoted_any x.south (HZ.out _ (by unfold Dg.fieldsI; simp)) u6 (Dg.B (Dg.quoteL (Dg.L x.south))) rfl).mono ?_
          rintro e u7 ⟨rfl, hb7⟩
          have hx7 := bnext hx6 hb7
          have hHeld7 : (fun X_ : World => X_.heap[w.heap.size + 1]? = some (.cells #[.string ⟨#[114, 101, 112, 101, 97, 108, 101, 100]⟩, .string x.id, .string P, .string Q] 9 (0, 0)) ∧ X_.heap[w.heap.size]? = some (.cells #[.int .i64 x.kind, .string x.id, .string x.parent, .string x.number, .string x.north, .string x.south, .bool x.gone] 31 (0, 0))) u7 := ⟨iNext hHeld6.1 hb7, iNext hHeld6.2 hb7⟩
          refine hK.out _ _ (Or.inr hHeld7) ?_
          clear hK K hHeld6 hb7 hx6
          try simp only [Act.put, List.getElem_toArray, List.getElem_cons_succ, List.getElem_cons_zero, List.setIfInBounds_toArray, List.set_cons_succ, List.set_cons_zero]
          obtain ⟨qn, hqn⟩ : ∃ q, Dg.B (Dg.quoteL (Dg.L x.north)) = q := ⟨_, rfl⟩
          obtain ⟨qs, hqs⟩ : ∃ q, Dg.B (Dg.quoteL (Dg.L x.south)) = q := ⟨_, rfl⟩
          rw [hqn, hqs]
          have HQN := hide hqn; have HQS := hide hqs
          clear hqn hqs
          refine wpAnyL_one (i := 7) (by decide +kernel) (by rfl) (fun K hK => ?_)
          rw [if_pos (by rfl)]
          go_simp
          have hn8 := Below.news (Below.refl u7.heap.size u7) (.cells #[.string qn, .string qs] 9)
          have hx8 := bnext hx7 hn8
          have hHeld8 : (fun X_ : World => X_.heap[w.heap.size + 1]? = some (.cells #[.string ⟨#[114, 101, 112, 101, 97, 108, 101, 100]⟩, .string x.id, .string P, .string Q] 9 (0, 0)) ∧ X_.heap[w.heap.size]? = some (.cells #[.int .i64 x.kind, .string x.id, .string x.parent, .string x.number, .string x.north, .string x.south, .bool x.gone] 31 (0, 0))) (u7.alloc (.cells #[.string qn, .string qs] 9)) := ⟨iNext hHeld7.1 hn8, iNext hHeld7.2 hn8⟩
          refine hK.out _ _ (Or.inr hHeld8) ?_
          clear hK K hHeld7 hn8
          try simp only [Act.put, List.getElem_toArray, List.getElem_cons_succ, List.getElem_cons_zero, List.setIfInBounds_toArray, List.set_cons_succ, List.set_cons_zero]
          refine wpAnyL_one (i := 8) (by decide +kernel) (by rfl) (fun K hK => ?_)
          rw [if_pos (by rfl)]
          refine wp_ag (.tmp 38) (.tmp 45) (by rfl) w.heap.size _ [⟨#[114, 101, 112, 101, 97, 108, 101, 100]⟩, x.id, P, Q] [qn, qs] (by rfl) (own_row4 (Nat.le_succ _) hHeld8.1) ⟨u7.heap.size, 0, none⟩ 2 2 (by rfl) rfl (fun j s hj => by
            rw [addr_off, cell_of_row _ _ _ _ _ (0, 0) (heap_alloc_new u7 _), Nat.zero_add, ← Array.getElem?_toList]
            have h9 : ([qn, qs].map Value.string)[j]? = some (.string s) := by rw [List.getElem?_map, hj]; rfl
            exact h9) (by simp) hx8.size ?_
          intro v8 u8 hO8 hg8 hat8
          have hx9 := hx8.grown hg8 hx8.size (fun k hk => by cases hk; exact Nat.le_succ _)
          refine hK.out _ _ (Or.inl (by decide +kernel)) ?_
          clear hK K hHeld8 hg8 hat8 hx8 hx7
          try simp only [Act.put, List.getElem_toArray, List.getElem_cons_succ, List.getElem_cons_zero, List.setIfInBounds_toArray, List.set_cons_succ, List.set_cons_zero]
          refine wpAnyL_one (i := 9) (by decide +kernel) (by rfl) (fun K hK => ?_)
          rw [if_pos (by rfl)]
          go_simp
          refine hK.out _ _ (Or.inl (by decide +kernel)) ?_
          clear hK K
          try simp only [Act.put, List.getElem_toArray, List.getElem_cons_succ, List.getElem_cons_zero, List.setIfInBounds_toArray, List.set_cons_succ, List.set_cons_zero]
          obtain ⟨A8, c8, e8, hc8, hS8⟩ := hO8.strs
          subst e8
          obtain ⟨g8, off8, rfl, hg8, hcell8⟩ := hS8.at_ (by simp)
          clear hO8 hS8
          refine wpAnyL_done (by decide +kernel) ?_ _
          refine NoPanic.normal ?_
          go_wp2_with fail
          have hJ : Lib.join (([⟨#[114, 101, 112, 101, 97, 108, 101, 100]⟩, x.id, P, Q, qn, qs] : List ByteArray).map (·.data.toList)) (⟨#[32]⟩ : ByteArray).data.toList = Dg.joinW (Dg.wordsI x) := by
            rw [show (⟨#[32]⟩ : ByteArray).data.toList = [32] from rfl, join_words]
            refine congrArg Dg.joinW ?_
            unfold Dg.wordsI
            rw [if_neg (show ¬ x.kind = 1 by rw [kz]; decide), if_pos hgo]
            rw [← L_orS, ← L_orS, ← HP.out, ← HQ.out]
            rw [← HQN.out, ← HQS.out]
            rfl
          have hjl : (Dg.lineL x).length = (Dg.joinW (Dg.wordsI x)).length + 1 := by unfold Dg.lineL; rw [List.length_append, List.length_singleton]
          have hjz : (Lib.join (([⟨#[114, 101, 112, 101, 97, 108, 101, 100]⟩, x.id, P, Q, qn, qs] : List ByteArray).map (·.data.toList)) (⟨#[32]⟩ : ByteArray).data.toList).length ≤ 140737488355328 := by
            have := HLEN.out
            rw [hJ]; omega
          refine (Tryz.strings_Join g8 off8 c8 [⟨#[114, 101, 112, 101, 97, 108, 101, 100]⟩, x.id, P, Q, qn, qs] ⟨#[32]⟩ u8 hcell8 hg8 (by simp) hc8 hjz).mono ?_
          rintro e u7 ⟨rfl, hb7⟩
          obtain ⟨JW, hJW⟩ : ∃ JW : ByteArray, (⟨(Lib.join (([⟨#[114, 101, 112, 101, 97, 108, 101, 100]⟩, x.id, P, Q, qn, qs] : List ByteArray).map (·.data.toList)) (⟨#[32]⟩ : ByteArray).data.toList).toArray⟩ : ByteArray) = JW := ⟨_, rfl⟩
          rw [hJW]
          have hJL : Dg.L JW = Dg.joinW (Dg.wordsI x) := by rw [← hJW, ← hJ]; rfl
          have hJS : JW.size + 1 = (Dg.lineL x).length := by rw [← Dg.len_L, hJL, hjl]
          clear hJW hJ hjl hjz
          have HJL := hide hJL
          clear hJL
          have hb8 := bnext hx9 hb7
          have hJSz : JW.size ≤ 2199023255552 := by have := HLEN.out; omega
          have HJS := hide hJS
          clear hJS
          go_wp2_with fail
          have hw1 := HB.out.next hb8
          have hw2 := bw_len HLEN.out HJS.out
          have hw3 := Nat.le_trans hn hb8.size
          have hw := bwrite_any bb n0 hbb (JW ++ ⟨#[10]⟩) v l u7 hw1 hw2 hw3
          refine hw.mono ?_
          clear hw hw1 hw2 hw3
          rintro e u8 ⟨⟨rr, rfl⟩, hstep⟩
          rw [L_app, HJL.out, show Dg.joinW (Dg.wordsI x) ++ Dg.L ⟨#[10]⟩ = Dg.lineL x from rfl, HR.out] at hstep
          go_wp2
          go_end0
          exact ⟨rfl, hstep.after hb8⟩
        | false =>
          rw [kz] at c0
          rw [hgo] at c6
          go_upto_region 12 with (fail)
          have hr4 := hr2; have hr5 := hr1; have hb4 := hb
          clear c0 c1 c2 c3 c4 c5 c6 fz w3 w4 w5 hr2 hr1 hb
          generalize wr = u4 at *
          have hmx : Tryz.prog.follows .mixedOrders = true := by kernel_rfl
          refine wp_region_noPanic ?_
          refine wp_region_L (fun X_ : World => X_.heap[w.heap.size + 1]? = some (.cells #[.string ⟨#[97, 114, 116, 105, 99, 108, 101]⟩, .string x.id, .string P, .string Q] 9 (0, 0)) ∧ X_.heap[w.heap.size]? = some (.cells #[.int .i64 x.kind, .string x.id, .string x.parent, .string x.number, .string x.north, .string x.south, .bool x.gone] 31 (0, 0))) 8 hmx ?_
          have hb5 : Below w.heap.size w u4.drew := bnext hb4 (Below.refl u4.heap.size u4).drew
          have hHeld : (fun X_ : World => X_.heap[w.heap.size + 1]? = some (.cells #[.string ⟨#[97, 114, 116, 105, 99, 108, 101]⟩, .string x.id, .string P, .string Q] 9 (0, 0)) ∧ X_.heap[w.heap.size]? = some (.cells #[.int .i64 x.kind, .string x.id, .string x.parent, .string x.number, .string x.north, .string x.south, .bool x.gone] 31 (0, 0))) u4.drew := ⟨hr4, hr5⟩
          clear hr4 hr5
          generalize u4.drew = u5 at *
          clear hb4
          refine wpAnyL_take (i := 0) (f0 := 12) (v := ?_) rfl (by decide +kernel) (by decide +kernel) (by decide +kernel) (by decide +kernel) (by decide +kernel) (fun _ _ _ h => h) (Or.inl ⟨by rfl, ?_⟩) hHeld ?_
          rotate_left
          · intro wS hS; obtain ⟨hS1, hS2⟩ := hS; go_simp; (try with_reducible rfl)
          simp only [Act.put, List.getElem_toArray, List.getElem_cons_zero, List.setIfInBounds_toArray, List.set_cons_succ, List.set_cons_zero]
          refine wpAnyL_take (i := 1) (f0 := 12) (v := ?_) rfl (by decide +kernel) (by decide +kernel) (by decide +kernel) (by decide +kernel) (by decide +kernel) (fun _ _ _ h => h) (Or.inl ⟨by rfl, ?_⟩) hHeld ?_
          rotate_left
          · intro wS hS; obtain ⟨hS1, hS2⟩ := hS; go_simp; (try with_reducible rfl)
          simp only [Act.put, List.getElem_toArray, List.getElem_cons_succ, List.getElem_cons_zero, List.setIfInBounds_toArray, List.set_cons_succ, List.set_cons_zero]
          refine wpAnyL_take (i := 2) (f0 := 12) (v := ?_) rfl (by decide +kernel) (by decide +kernel) (by decide +kernel) (by decide +kernel) (by decide +kernel) (fun _ _ _ h => h) (Or.inl ⟨by rfl, ?_⟩) hHeld ?_
          rotate_left
          · intro wS hS; obtain ⟨hS1, hS2⟩ := hS; obtain ⟨c0, c1, c2, c3, c4, c5, c6⟩ := iCells hS2; go_simp; (try with_reducible rfl)
          simp only [Act.put, List.getElem_toArray, List.getElem_cons_succ, List.getElem_cons_zero, List.setIfInBounds_toArray, List.set_cons_succ, List.set_cons_zero]
          refine wpAnyL_take (i := 4) (f0 := 12) (v := ?_) rfl (by decide +kernel) (by decide +kernel) (by decide +kernel) (by decide +kernel) (by decide +kernel) (fun _ _ _ h => h) (Or.inl ⟨by rfl, ?_⟩) hHeld ?_
          rotate_left
          · intro wS hS; obtain ⟨hS1, hS2⟩ := hS; go_simp; (try with_reducible rfl)
          simp only [Act.put, List.getElem_toArray, List.getElem_cons_succ, List.getElem_cons_zero, List.setIfInBounds_toArray, List.set_cons_succ, List.set_cons_zero]
          refine wpAnyL_take (i := 5) (f0 := 12) (v := ?_) rfl (by decide +kernel) (by decide +kernel) (by decide +kernel) (by decide +kernel) (by decide +kernel) (fun _ _ _ h => h) (Or.inl ⟨by rfl, ?_⟩) hHeld ?_
          rotate_left
          · intro wS hS; obtain ⟨hS1, hS2⟩ := hS; obtain ⟨c0, c1, c2, c3, c4, c5, c6⟩ := iCells hS2; go_simp; (try with_reducible rfl)
          simp only [Act.put, List.getElem_toArray, List.getElem_cons_succ, List.getElem_cons_zero, List.setIfInBounds_toArray, List.set_cons_succ, List.set_cons_zero]
          refine wpAnyL_one (i := 3) (by decide +kernel) (by rfl) (fun K hK => ?_)
          rw [if_pos (by rfl)]
          go_simp
          refine (quoted_any x.north (HZ.out _ (by unfold Dg.fieldsI; simp)) u5 (Dg.B (Dg.quoteL (Dg.L x.north))) rfl).mono ?_
          rintro e u6 ⟨rfl, hb6⟩
          have hx6 := bnext hb5 hb6
          have hHeld6 : (fun X_ : World => X_.heap[w.heap.size + 1]? = some (.cells #[.string ⟨#[97, 114, 116, 105, 99, 108, 101]⟩, .string x.id, .string P, .string Q] 9 (0, 0)) ∧ X_.heap[w.heap.size]? = some (.cells #[.int .i64 x.kind, .string x.id, .string x.parent, .string x.number, .string x.north, .string x.south, .bool x.gone] 31 (0, 0))) u6 := ⟨iNext hHeld.1 hb6, iNext hHeld.2 hb6⟩
          refine hK.out _ _ (Or.inr hHeld6) ?_
          clear hK K hHeld hb6 hb5
          try simp only [Act.put, List.getElem_toArray, List.getElem_cons_succ, List.getElem_cons_zero, List.setIfInBounds_toArray, List.set_cons_succ, List.set_cons_zero]
          refine wpAnyL_one (i := 6) (by decide +kernel) (by rfl) (fun K hK => ?_)
          rw [if_pos (by rfl)]
          go_simp
          refine (quoted_any x.south (HZ.out _ (by unfold Dg.fieldsI; simp)) u6 (Dg.B (Dg.quoteL (Dg.L x.south))) rfl).mono ?_
          rintro e u7 ⟨rfl, hb7⟩
          have hx7 := bnext hx6 hb7
          have hHeld7 : (fun X_ : World => X_.heap[w.heap.size + 1]? = some (.cells #[.string ⟨#[97, 114, 116, 105, 99, 108, 101]⟩, .string x.id, .string P, .string Q] 9 (0, 0)) ∧ X_.heap[w.heap.size]? = some (.cells #[.int .i64 x.kind, .string x.id, .string x.parent, .string x.number, .string x.north, .string x.south, .bool x.gone] 31 (0, 0))) u7 := ⟨iNext hHeld6.1 hb7, iNext hHeld6.2 hb7⟩
          refine hK.out _ _ (Or.inr hHeld7) ?_
          clear hK K hHeld6 hb7 hx6
          try simp only [Act.put, List.getElem_toArray, List.getElem_cons_succ, List.getElem_cons_zero, List.setIfInBounds_toArray, List.set_cons_succ, List.set_cons_zero]
          obtain ⟨qn, hqn⟩ : ∃ q, Dg.B (Dg.quoteL (Dg.L x.north)) = q := ⟨_, rfl⟩
          obtain ⟨qs, hqs⟩ : ∃ q, Dg.B (Dg.quoteL (Dg.L x.south)) = q := ⟨_, rfl⟩
          rw [hqn, hqs]
          have HQN := hide hqn; have HQS := hide hqs
          clear hqn hqs
          refine wpAnyL_one (i := 7) (by decide +kernel) (by rfl) (fun K hK => ?_)
          rw [if_pos (by rfl)]
          go_simp
          have hn8 := Below.news (Below.refl u7.heap.size u7) (.cells #[.string qn, .string qs] 9)
          have hx8 := bnext hx7 hn8
          have hHeld8 : (fun X_ : World => X_.heap[w.heap.size + 1]? = some (.cells #[.string ⟨#[97, 114, 116, 105, 99, 108, 101]⟩, .string x.id, .string P, .string Q] 9 (0, 0)) ∧ X_.heap[w.heap.size]? = some (.cells #[.int .i64 x.kind, .string x.id, .string x.parent, .string x.number, .string x.north, .string x.south, .bool x.gone] 31 (0, 0))) (u7.alloc (.cells #[.string qn, .string qs] 9)) := ⟨iNext hHeld7.1 hn8, iNext hHeld7.2 hn8⟩
          refine hK.out _ _ (Or.inr hHeld8) ?_
          clear hK K hHeld7 hn8
          try simp only [Act.put, List.getElem_toArray, List.getElem_cons_succ, List.getElem_cons_zero, List.setIfInBounds_toArray, List.set_cons_succ, List.set_cons_zero]
          refine wpAnyL_one (i := 8) (by decide +kernel) (by rfl) (fun K hK => ?_)
          rw [if_pos (by rfl)]
          refine wp_ag (.tmp 38) (.tmp 45) (by rfl) w.heap.size _ [⟨#[97, 114, 116, 105, 99, 108, 101]⟩, x.id, P, Q] [qn, qs] (by rfl) (own_row4 (Nat.le_succ _) hHeld8.1) ⟨u7.heap.size, 0, none⟩ 2 2 (by rfl) rfl (fun j s hj => by
            rw [addr_off, cell_of_row _ _ _ _ _ (0, 0) (heap_alloc_new u7 _), Nat.zero_add, ← Array.getElem?_toList]
            have h9 : ([qn, qs].map Value.string)[j]? = some (.string s) := by rw [List.getElem?_map, hj]; rfl
            exact h9) (by simp) hx8.size ?_
          intro v8 u8 hO8 hg8 hat8
          have hx9 := hx8.grown hg8 hx8.size (fun k hk => by cases hk; exact Nat.le_succ _)
          refine hK.out _ _ (Or.inl (by decide +kernel)) ?_
          clear hK K hHeld8 hg8 hat8 hx8 hx7
          try simp only [Act.put, List.getElem_toArray, List.getElem_cons_succ, List.getElem_cons_zero, List.setIfInBounds_toArray, List.set_cons_succ, List.set_cons_zero]
          refine wpAnyL_one (i := 9) (by decide +kernel) (by rfl) (fun K hK => ?_)
          rw [if_pos (by rfl)]
          go_simp
          refine hK.out _ _ (Or.inl (by decide +kernel)) ?_
          clear hK K
          try simp only [Act.put, List.getElem_toArray, List.getElem_cons_succ, List.getElem_cons_zero, List.setIfInBounds_toArray, List.set_cons_succ, List.set_cons_zero]
          obtain ⟨A8, c8, e8, hc8, hS8⟩ := hO8.strs
          subst e8
          obtain ⟨g8, off8, rfl, hg8, hcell8⟩ := hS8.at_ (by simp)
          clear hO8 hS8
          refine wpAnyL_done (by decide +kernel) ?_ _
          refine NoPanic.normal ?_
          go_wp2_with fail
          have hJ : Lib.join (([⟨#[97, 114, 116, 105, 99, 108, 101]⟩, x.id, P, Q, qn, qs] : List ByteArray).map (·.data.toList)) (⟨#[32]⟩ : ByteArray).data.toList = Dg.joinW (Dg.wordsI x) := by
            rw [show (⟨#[32]⟩ : ByteArray).data.toList = [32] from rfl, join_words]
            refine congrArg Dg.joinW ?_
            unfold Dg.wordsI
            rw [if_neg (show ¬ x.kind = 1 by rw [kz]; decide), if_neg (show ¬ x.gone = true by rw [hgo]; decide)]
            rw [← L_orS, ← L_orS, ← HP.out, ← HQ.out]
            rw [← HQN.out, ← HQS.out]
            rfl
          have hjl : (Dg.lineL x).length = (Dg.joinW (Dg.wordsI x)).length + 1 := by unfold Dg.lineL; rw [List.length_append, List.length_singleton]
          have hjz : (Lib.join (([⟨#[97, 114, 116, 105, 99, 108, 101]⟩, x.id, P, Q, qn, qs] : List ByteArray).map (·.data.toList)) (⟨#[32]⟩ : ByteArray).data.toList).length ≤ 140737488355328 := by
            have := HLEN.out
            rw [hJ]; omega
          refine (Tryz.strings_Join g8 off8 c8 [⟨#[97, 114, 116, 105, 99, 108, 101]⟩, x.id, P, Q, qn, qs] ⟨#[32]⟩ u8 hcell8 hg8 (by simp) hc8 hjz).mono ?_
          rintro e u7 ⟨rfl, hb7⟩
          obtain ⟨JW, hJW⟩ : ∃ JW : ByteArray, (⟨(Lib.join (([⟨#[97, 114, 116, 105, 99, 108, 101]⟩, x.id, P, Q, qn, qs] : List ByteArray).map (·.data.toList)) (⟨#[32]⟩ : ByteArray).data.toList).toArray⟩ : ByteArray) = JW := ⟨_, rfl⟩
          rw [hJW]
          have hJL : Dg.L JW = Dg.joinW (Dg.wordsI x) := by rw [← hJW, ← hJ]; rfl
          have hJS : JW.size + 1 = (Dg.lineL x).length := by rw [← Dg.len_L, hJL, hjl]
          clear hJW hJ hjl hjz
          have HJL := hide hJL
          clear hJL
          have hb8 := bnext hx9 hb7
          have hJSz : JW.size ≤ 2199023255552 := by have := HLEN.out; omega
          have HJS := hide hJS
          clear hJS
          go_wp2_with fail
          have hw1 := HB.out.next hb8
          have hw2 := bw_len HLEN.out HJS.out
          have hw3 := Nat.le_trans hn hb8.size
          have hw := bwrite_any bb n0 hbb (JW ++ ⟨#[10]⟩) v l u7 hw1 hw2 hw3
          refine hw.mono ?_
          clear hw hw1 hw2 hw3
          rintro e u8 ⟨⟨rr, rfl⟩, hstep⟩
          rw [L_app, HJL.out, show Dg.joinW (Dg.wordsI x) ++ Dg.L ⟨#[10]⟩ = Dg.lineL x from rfl, HR.out] at hstep
          go_wp2
          go_end0
          exact ⟨rfl, hstep.after hb8⟩
end Go.Proofs.YtpldhempbdionaaGreatDoor
/- The visit of package code's Text. No conditions but those that each theorem states. -/
namespace Go.Proofs.YtpldhempbdionaaGreatDoor
open Go Go.RowKit Go.Sort Go.Maps
set_option maxRecDepth 100000 in
set_option maxHeartbeats 8000000 in
theorem text2_any (l : List Dg.It) (AI : Option Addr) (n c : Nat) (hl : l.length = n) (B0 bb n0 b5 b2 : Nat) (hbb : bb < n0) (k : Nat) (hk : k < l.length) (W : World) (hI : Its W B0 AI l) (hkd : l[k].kind = 1 ∨ l[k].kind = 2) (hz : ∀ s ∈ Dg.fieldsI l[k], s.size ≤ 1073741824)
    (r5 : W.heap[b5]? = some (.cells #[.func (.func 49) #[] #[.pointer (some ⟨bb, 0, none⟩)]] 75 (0, 0))) (r2 : W.heap[b2]? = some (.cells #[.slice AI n c] 24 (0, 0))) (v : Value) (L : List UInt8) (hB : BldAt bb n0 W v L) (hlen : L.length + (Dg.lineL l[k]).length ≤ 2199023255552) (hn0 : n0 ≤ W.heap.size) (A : Option Addr) (m co : Nat) :
    Calls Tryz.prog 53 #[.int .i64 (k : Int), .slice A m co, .pointer (some ⟨b5, 0, none⟩), .pointer (some ⟨b2, 0, none⟩)] W fun e W' => e = .returned (.tuple #[]) ∧ BldStep bb n0 W W' v (L ++ Dg.lineL l[k]) := by
  obtain ⟨b, off, rfl⟩ := hI.some hk
  obtain ⟨x, hx⟩ : ∃ x, l[k] = x := ⟨_, rfl⟩
  rw [hx] at hkd hz hlen ⊢
  have HZ := hide hz; have HX := hide hx; have HKD := hide hkd; have HLEN := hide hlen
  clear hz hx hkd hlen
  have hidx : (k : Int) < (n : Int) := by omega
  have hk0 : (0 : Int) ≤ (k : Int) := by omega
  have en : ∀ args w, (callFunc 49 args).run Tryz.prog w = .ok (.enter 49 args) w := enters_of Tryz.func49 (by kernel_rfl) rfl
  go_enter Tryz.func53, Tryz.ntmps53
  go_upto_region 0 with (fail)
  have hmx : Tryz.prog.follows .mixedOrders = true := by kernel_rfl
  refine wp_region_noPanic ?_
  refine wp_region_L (fun X_ : World => X_.heap[b5]? = some (.cells #[.func (.func 49) #[] #[.pointer (some ⟨bb, 0, none⟩)]] 75 (0, 0)) ∧ X_.heap[b2]? = some (.cells #[.slice (some ⟨b, off, none⟩) n c] 24 (0, 0)) ∧ Its X_ B0 (some ⟨b, off, none⟩) l) 6 hmx ?_
  have hHeld : (fun X_ : World => X_.heap[b5]? = some (.cells #[.func (.func 49) #[] #[.pointer (some ⟨bb, 0, none⟩)]] 75 (0, 0)) ∧ X_.heap[b2]? = some (.cells #[.slice (some ⟨b, off, none⟩) n c] 24 (0, 0)) ∧ Its X_ B0 (some ⟨b, off, none⟩) l) W.drew := ⟨r5, r2, hI.below (Below.refl B0 W).drew⟩
  have hBd : BldAt bb n0 W.drew v L := hB.next (Below.refl W.heap.size W).drew
  have hbd : Below W.heap.size W W.drew := (Below.refl W.heap.size W).drew
  have hnd : n0 ≤ W.drew.heap.size := Nat.le_trans hn0 hbd.size
  generalize W.drew = u0 at *
  clear r5 r2 hI hB
  refine wpAnyL_take (i := 0) (f0 := 12) (v := ?_) rfl (by decide +kernel) (by decide +kernel) (by decide +kernel) (by decide +kernel) (by decide +kernel) (fun _ _ _ h => h) (Or.inl ⟨by rfl, ?_⟩) hHeld ?_
  rotate_left
  · intro wS hS; obtain ⟨hS1, hS2, hS3⟩ := hS; have c9 := iCells0 hS1; go_simp; (try with_reducible rfl)
  simp only [Act.put, List.getElem_toArray, List.getElem_cons_zero, List.setIfInBounds_toArray, List.set_cons_succ, List.set_cons_zero]
  refine wpAnyL_take (i := 1) (f0 := 12) (v := ?_) rfl (by decide +kernel) (by decide +kernel) (by decide +kernel) (by decide +kernel) (by decide +kernel) (fun _ _ _ h => h) (Or.inl ⟨by rfl, ?_⟩) hHeld ?_
  rotate_left
  · intro wS hS; obtain ⟨hS1, hS2, hS3⟩ := hS; go_simp; (try with_reducible rfl)
  simp only [Act.put, List.getElem_toArray, List.getElem_cons_succ, List.getElem_cons_zero, List.setIfInBounds_toArray, List.set_cons_succ, List.set_cons_zero]
  refine wpAnyL_take (i := 2) (f0 := 12) (v := ?_) rfl (by decide +kernel) (by decide +kernel) (by decide +kernel) (by decide +kernel) (by decide +kernel) (fun _ _ _ h => h) (Or.inl ⟨by rfl, ?_⟩) hHeld ?_
  rotate_left
  · intro wS hS; obtain ⟨hS1, hS2, hS3⟩ := hS; have c9 := iCells0 hS2; go_simp; (try with_reducible rfl)
  simp only [Act.put, List.getElem_toArray, List.getElem_cons_succ, List.getElem_cons_zero, List.setIfInBounds_toArray, List.set_cons_succ, List.set_cons_zero]
  refine wpAnyL_take (i := 3) (f0 := 12) (v := ?_) rfl (by decide +kernel) (by decide +kernel) (by decide +kernel) (by decide +kernel) (by decide +kernel) (fun _ _ _ h => h) (Or.inl ⟨by rfl, ?_⟩) hHeld ?_
  rotate_left
  · intro wS hS; obtain ⟨hS1, hS2, hS3⟩ := hS; go_simp; (try with_reducible rfl)
  simp only [Act.put, List.getElem_toArray, List.getElem_cons_succ, List.getElem_cons_zero, List.setIfInBounds_toArray, List.set_cons_succ, List.set_cons_zero]
  refine wpAnyL_take (i := 4) (f0 := 12) (v := ?_) rfl (by decide +kernel) (by decide +kernel) (by decide +kernel) (by decide +kernel) (by decide +kernel) (fun _ _ _ h => h) (Or.inl ⟨by rfl, ?_⟩) hHeld ?_
  rotate_left
  · intro wS hS; obtain ⟨hS1, hS2, hS3⟩ := hS; go_simp; (try with_reducible rfl)
  simp only [Act.put, List.getElem_toArray, List.getElem_cons_succ, List.getElem_cons_zero, List.setIfInBounds_toArray, List.set_cons_succ, List.set_cons_zero]
  refine wpAnyL_take (i := 5) (f0 := 12) (v := ?_) rfl (by decide +kernel) (by decide +kernel) (by decide +kernel) (by decide +kernel) (by decide +kernel) (fun _ _ _ h => h) (Or.inl ⟨by rfl, ?_⟩) hHeld ?_
  rotate_left
  · intro wS hS; obtain ⟨hS1, hS2, hS3⟩ := hS; obtain ⟨hbl, p0, p1, p2, p3, p4, p5, p6⟩ := hS3.cells hk x HX.out; go_simp; (try with_reducible rfl)
  simp only [Act.put, List.getElem_toArray, List.getElem_cons_succ, List.getElem_cons_zero, List.setIfInBounds_toArray, List.set_cons_succ, List.set_cons_zero]
  refine wpAnyL_one (i := 6) (by decide +kernel) (by rfl) (fun K hK => ?_)
  rw [if_pos (by rfl)]
  go_simp
  have hc := text1_any x HKD.out HZ.out bb n0 hbb v L u0 hBd HLEN.out hnd _ rfl
  refine hc.mono ?_
  clear hc
  rintro e u6 ⟨rfl, hstep⟩
  refine hK.out _ _ (Or.inl (by decide +kernel)) ?_
  clear hK K hHeld
  try simp only [Act.put, List.getElem_toArray, List.getElem_cons_succ, List.getElem_cons_zero, List.setIfInBounds_toArray, List.set_cons_succ, List.set_cons_zero]
  refine wpAnyL_done (by decide +kernel) ?_ _
  refine NoPanic.normal ?_
  have HS := hide (hstep.after hbd)
  clear hstep hBd
  go_wp2
  go_end0
  exact ⟨rfl, HS.out⟩
end Go.Proofs.YtpldhempbdionaaGreatDoor
/- Text of package code. No conditions but those that each theorem states. -/
namespace Go.Proofs.YtpldhempbdionaaGreatDoor
open Go Go.RowKit Go.Sort Go.Maps
theorem OwnB.weak {w : World} {B B' : Nat} {v : Value} {l : List UInt8} (h : OwnB w B v l) (hB : B' ≤ B) : OwnB w B' v l := by
  obtain ⟨h1, h2⟩ := h
  refine ⟨h1, ?_⟩
  rcases h2 with h2 | ⟨g, cap, cur, hv, hg, r⟩
  · exact Or.inl h2
  · exact Or.inr ⟨g, cap, cur, hv, Nat.le_trans hB hg, r⟩
theorem BldAt.is {bb n0 : Nat} {W : World} {v : Value} {l : List UInt8} (h : BldAt bb n0 W v l) (hb : bb < n0) : Lib.IsBuilder 69 5 bb bb (Lib.byteCells l) W := by
  obtain ⟨p, hp, hr⟩ := h.row
  have hO : W.ownsRow bb 5 1 v (Lib.byteCells l).length (Lib.byteCells l) := by
    have := h.own.weak (Nat.le_of_lt hb)
    rw [show (Lib.byteCells l).length = l.length by simp [Lib.byteCells]]
    exact this
  have hne : v.ownBlock ≠ some bb := fun e => by have := (h.own.lt e).1; omega
  rcases hp with rfl | rfl
  · exact Or.inl ⟨Nat.le_refl _, v, hr, hO, hne⟩
  · exact Or.inr ⟨Nat.le_refl _, v, hr, hO, hne⟩
theorem bld_visit {l : List Dg.It} {F : Nat} {lb : Array Value} {B0 n0 bo : Nat} (hb0 : B0 ≤ bo) (hbn : bo < n0) (Low : World → Prop) (hLow : ∀ W W', Low W → (∀ g, g < n0 → g ≠ bo → W'.heap[g]? = W.heap[g]?) → Low W') (f : List (List ByteArray) → List UInt8)
    (en : ∀ args w, (callFunc F args).run Tryz.prog w = .ok (.enter F args) w)
    (hc : ∀ (k : Nat) (W : World) (v : Value) (o : List ByteArray) (A : Option Addr) (c : Nat) (vs : List (List ByteArray)) (s : Dg.Wk), k < l.length → Low W → BldAt bo n0 W v (f vs) → n0 ≤ W.heap.size → Dg.walkTo l (k + 1) = some (vs ++ [o], s) → vs.length = k → Strs W W.heap.size A o → o.length ≤ c →
      Calls Tryz.prog F (#[.int .i64 (k : Int), .slice A o.length c] ++ lb) W fun e W' => e = .returned (.tuple #[]) ∧ BldStep bo n0 W W' v (f (vs ++ [o]))) :
    Visit l F lb B0 n0 (fun k S W => ∃ v vs s, S = outS bo v ∧ BldAt bo n0 W v (f vs) ∧ Dg.walkTo l k = some (vs, s) ∧ Low W) where
  enters := en
  stable := fun k S W W' h hS hb => by
    obtain ⟨v, vs, s, rfl, h1, h2, h3⟩ := h
    exact ⟨v, vs, s, rfl, h1.same hS, h2, hLow W W' h3 fun g hg _ => hb.block g hg⟩
  lt := fun k S W h g hg => by
    obtain ⟨v, vs, s, rfl, h1, h2, h3⟩ := h
    rcases mem_outS hg with rfl | e
    · obtain ⟨p, _, hr⟩ := h1.row
      exact ⟨hb0, lt_of_block hr⟩
    · have := h1.own.lt e
      omega
  call := fun k S W o A c vs s hk h hw hvl hS hoc hn => by
    obtain ⟨v, vs0, s0, rfl, h1, h2, h3⟩ := h
    obtain ⟨vs1, s1, o1, e1, _, e2⟩ := Dg.walk_step hk hw
    rw [h2] at e1
    cases e1
    obtain ⟨rfl, e3⟩ := List.append_inj' e2 rfl
    refine (hc k W v o A c vs s hk h3 h1 hn hw hvl hS hoc).mono ?_
    rintro e W' ⟨rfl, v', h4, h5, h6⟩
    refine ⟨rfl, outS bo v', ⟨v', vs ++ [o], s, rfl, h4, hw, hLow W W' h3 fun g hg hgb => h5.block g (by omega) fun hm => ?_⟩, h5, fun g hg => ?_⟩
    · rcases mem_outS hm with e | e
      · exact hgb e
      · have := (h1.own.lt e).1
        omega
    · rcases mem_outS hg with rfl | e
      · exact Or.inl (List.mem_cons_self ..)
      · exact (h6 g e).imp outS_own id
/-- The walk, when its visits write a builder. -/
theorem bld_walk {F : Nat} {lb : Array Value} (l : List Dg.It) (A : Option Addr) (n c : Nat) (hl : l.length = n) (hw : ∀ x ∈ l, ItW x) (hn : n ≤ 1048576) (B0 bo : Nat) (w : World) (hI : Its w B0 A l) (hB : B0 ≤ bo) (hbo : bo < w.heap.size) (Low : World → Prop) (hLow : ∀ W W', Low W → (∀ g, g < w.heap.size → g ≠ bo → W'.heap[g]? = W.heap[g]?) → Low W') (f : List (List ByteArray) → List UInt8)
    (en : ∀ args w, (callFunc F args).run Tryz.prog w = .ok (.enter F args) w)
    (hc : ∀ (k : Nat) (W : World) (v : Value) (o : List ByteArray) (A : Option Addr) (c : Nat) (vs : List (List ByteArray)) (s : Dg.Wk), k < l.length → Low W → BldAt bo w.heap.size W v (f vs) → w.heap.size ≤ W.heap.size → Dg.walkTo l (k + 1) = some (vs ++ [o], s) → vs.length = k → Strs W W.heap.size A o → o.length ≤ c →
      Calls Tryz.prog F (#[.int .i64 (k : Int), .slice A o.length c] ++ lb) W fun e W' => e = .returned (.tuple #[]) ∧ BldStep bo w.heap.size W W' v (f (vs ++ [o])))
    (h0 : BldAt bo w.heap.size w (.slice none 0 0) (f [])) (hl0 : Low w) (R : Bool) (hR : Dg.validC l = R) :
    Calls Tryz.prog 35 #[.agg #[.slice A n c], .func (.func F) #[] lb] w fun e w' => e = .returned (.bool R) ∧ ∃ v L, (R = true → L = f (Dg.visits l)) ∧ BldAt bo w.heap.size w' v L ∧ Low w' ∧ Below bo w w' ∧ w.heap.size ≤ w'.heap.size := by
  refine (walk_any l A n c hl hw hn B0 w hI (by omega) F lb _ (bld_visit hB hbo Low hLow f en hc) [bo] ⟨.slice none 0 0, [], ⟨[], []⟩, rfl, h0, rfl, hl0⟩ R hR).mono ?_
  rintro e w' ⟨rfl, k, S, hk, ⟨v, vs, s, rfl, h1, h2, h3⟩, ho, _⟩
  refine ⟨rfl, v, f vs, fun hr => ?_, h1, h3, ho.below (by omega) (fun g hg => by rw [List.mem_singleton.1 hg]; exact Nat.le_refl _), ho.size⟩
  have := hk hr
  subst this
  rw [hr] at hR
  obtain ⟨s', h4, _⟩ := Dg.valid_walk hR
  rw [hl] at h4
  rw [h2] at h4
  cases h4
  rfl
theorem line_len2 (x : Dg.It) (hx : ∀ s ∈ Dg.fieldsI x, s.size ≤ 10000) : (Dg.lineL x).length ≤ 120100 := by
  have h1 := hx x.id (by unfold Dg.fieldsI; simp)
  have h2 := hx x.parent (by unfold Dg.fieldsI; simp)
  have h3 := hx x.number (by unfold Dg.fieldsI; simp)
  have h4 := hx x.north (by unfold Dg.fieldsI; simp)
  have h5 := hx x.south (by unfold Dg.fieldsI; simp)
  have ho : ∀ s : ByteArray, s.size ≤ 10000 → (Dg.orL (Dg.L s)).length ≤ 20002 := fun s hs => by
    unfold Dg.orL
    split
    · decide
    · rw [Dg.len_L]; omega
  have hq : ∀ s : ByteArray, s.size ≤ 10000 → (Dg.quoteL (Dg.L s)).length ≤ 20002 := fun s hs => by
    unfold Dg.quoteL
    have := Dg.escL_len (Dg.L s)
    rw [Dg.len_L] at this
    rw [List.length_cons, List.length_append, List.length_singleton]
    omega
  have hi : (Dg.L x.id).length ≤ 20002 := by rw [Dg.len_L]; omega
  unfold Dg.lineL
  rw [List.length_append, List.length_singleton]
  have hw : ∀ w ∈ Dg.wordsI x, w.length ≤ 20002 := fun w hw => by
    unfold Dg.wordsI at hw
    split at hw
    · simp only [List.mem_cons, List.not_mem_nil, or_false] at hw
      rcases hw with rfl | rfl | rfl | rfl
      · decide
      · exact hi
      · exact ho _ h2
      · exact ho _ h3
    · simp only [List.mem_cons, List.not_mem_nil, or_false] at hw
      rcases hw with rfl | rfl | rfl | rfl | rfl | rfl
      · split <;> decide
      · exact hi
      · exact ho _ h2
      · exact ho _ h3
      · exact hq _ h4
      · exact hq _ h5
  have hl : (Dg.wordsI x).length ≤ 6 := by unfold Dg.wordsI; split <;> simp
  have := Dg.joinW_len (Dg.wordsI x) 20002 hw
  have : (Dg.wordsI x).length * (20002 + 1) ≤ 6 * (20002 + 1) := Nat.mul_le_mul_right _ hl
  omega
theorem text_len2 : ∀ (l : List Dg.It), (∀ x ∈ l, ∀ s ∈ Dg.fieldsI x, s.size ≤ 10000) → (Dg.textL l).length ≤ l.length * 120100
  | [], _ => Nat.zero_le _
  | x :: l, h => by
    have h1 := line_len2 x (h x (List.mem_cons_self ..))
    have h2 := text_len2 l (fun y hy => h y (List.mem_cons_of_mem _ hy))
    have e : Dg.textL (x :: l) = Dg.lineL x ++ Dg.textL l := by unfold Dg.textL; rw [List.flatMap_cons]
    rw [e, List.length_append, List.length_cons, Nat.add_mul]
    omega
theorem textL_snoc (l : List Dg.It) (k : Nat) (hk : k < l.length) : Dg.textL (l.take (k + 1)) = Dg.textL (l.take k) ++ Dg.lineL l[k] := by
  unfold Dg.textL
  rw [List.take_succ_eq_append_getElem hk, List.flatMap_append]
  simp
theorem textL_room (l : List Dg.It) (k n : Nat) (hl : l.length = n) (hn : n ≤ 10000) (hz : ∀ x ∈ l, ∀ s ∈ Dg.fieldsI x, s.size ≤ 10000) (hk : k < l.length) : (Dg.textL (l.take k)).length + (Dg.lineL l[k]).length ≤ 2199023255552 := by
  have h1 := line_len2 _ (hz _ (List.getElem_mem hk))
  have h2 := text_len2 (l.take k) (fun x hx => hz x (List.mem_of_mem_take hx))
  have h3 : (l.take k).length ≤ 10000 := by rw [List.length_take]; omega
  have h4 : (l.take k).length * 120100 ≤ 10000 * 120100 := Nat.mul_le_mul_right _ h3
  omega
theorem fields_small {x : Dg.It} (h : ∀ s ∈ Dg.fieldsI x, s.size ≤ 10000) : ∀ s ∈ Dg.fieldsI x, s.size ≤ 1073741824 := fun s hs => Nat.le_trans (h s hs) (by decide)
set_option maxRecDepth 100000 in
set_option maxHeartbeats 8000000 in
theorem Code.text_of (l : List Dg.It) (A : Option Addr) (n c : Nat) (hl : l.length = n) (hw : ∀ x ∈ l, ItW x) (hn : n ≤ 10000) (w : World) (hI : Its w w.heap.size A l) (hz : ∀ x ∈ l, ∀ s ∈ Dg.fieldsI x, s.size ≤ 10000) (S : ByteArray) (E : Int) (hS : Dg.textC l = (S, E)) :
    Calls Tryz.prog 22 #[.agg #[.slice A n c]] w fun e w' => e = .returned (.tuple #[.string S, .int .i64 E]) ∧ Below w.heap.size w w' := by
  obtain ⟨r2, rb, rf, hb, hs⟩ := iAlloc3 w (.cells #[.slice A n c] 24) (.cells #[.pointer none, .slice none 0 0] 69) (.cells #[.func (.func 49) #[] #[.pointer (some ⟨w.heap.size + 1, 0, none⟩)]] 75)
  have hmf : ∀ (fn : Fn) (first cap : Array Value) (w : World), (Instr.makeFunc fn first cap).run Tryz.prog w = .ok (.func fn first cap) w := fun _ _ _ _ => rfl
  have HI := hide hI; have HW := hide hw; have HL := hide hl; have HQ := hide hS; have HZ := hide hz
  clear hI hw hl hS hz
  go_enter Tryz.func22, Tryz.ntmps22
  go_wp2_with fail
  obtain ⟨R, hR⟩ : ∃ R, Dg.validC l = R := ⟨_, rfl⟩
  generalize ((w.alloc (.cells #[.slice A n c] 24)).alloc (.cells #[.pointer none, .slice none 0 0] 69)).alloc (.cells #[.func (.func 49) #[] #[.pointer (some ⟨w.heap.size + 1, 0, none⟩)]] 75) = W1 at *
  refine (bld_walk l A n c HL.out HW.out (by omega) w.heap.size (w.heap.size + 1) W1 (HI.out.below hb) (by omega) (by omega) (fun W => W.heap[w.heap.size]? = some (.cells #[.slice A n c] 24 (0, 0)) ∧ W.heap[w.heap.size + 1 + 1]? = some (.cells #[.func (.func 49) #[] #[.pointer (some ⟨w.heap.size + 1, 0, none⟩)]] 75 (0, 0)) ∧ Its W w.heap.size A l)
    (fun W W' h hg => ⟨(hg _ (by omega) (by omega)).trans h.1, (hg _ (by omega) (by omega)).trans h.2.1, h.2.2.same fun g hg' => hg g (by omega) (by omega)⟩) (fun vs => Dg.textL (l.take vs.length)) (enters_of Tryz.func53 (by kernel_rfl) rfl)
    (fun k W v o A' c' vs s hk hlow hO hn0 hwt hvl hS hoc => by
      subst hvl
      have h1 := text2_any l A n c HL.out w.heap.size (w.heap.size + 1) W1.heap.size (w.heap.size + 1 + 1) w.heap.size (by omega) vs.length hk W hlow.2.2 (visit_kind hk hwt) (fields_small (HZ.out _ (List.getElem_mem hk))) hlow.2.1 hlow.1 v _ hO (textL_room l vs.length n HL.out hn HZ.out hk) hn0 A' o.length c'
      rw [← textL_snoc l vs.length hk] at h1
      rw [List.length_append, List.length_singleton]
      exact h1)
    ⟨⟨.pointer none, Or.inl rfl, rb⟩, World.ownsRow_nil _ _ _ _⟩ ⟨r2, rf, HI.out.below hb⟩ R hR).mono ?_
  rintro e w2 ⟨rfl, v, L', hL', hO2, _, hb2, hsz2⟩
  have hb' : Below w.heap.size w w2 := hb.trans (hb2.mono (by omega))
  have hq := HQ.out
  unfold Dg.textC at hq
  rw [hR] at hq
  have HLL := hide hL'
  have hv := hide hR
  have HO2 := hide hO2
  have hnb : Hid (w.heap.size + 1 < W1.heap.size) := by have := hs; show _ < _; omega
  have hnw : Hid (w.heap.size + 1 ≤ w2.heap.size) := by have := hs; show _ ≤ _; omega
  clear hL' hb hb2 r2 rb rf hO2 hR HQ hmf hs hsz2
  cases R with
  | false =>
    rw [if_neg Bool.false_ne_true] at hq
    cases hq
    go_wp2
    go_ret2
    exact ⟨rfl, hb'⟩
  | true =>
    rw [if_pos rfl] at hq
    have e9 := HLL.out rfl
    rw [visits_le l hv.out, List.take_length] at e9
    subst e9
    have HQ2 := hide hq
    clear hq HLL
    go_wp2_with fail
    have hlen := Tryz.Builder_Len (w.heap.size + 1) (w.heap.size + 1) _ w2 (HO2.out.is hnb.out)
    rw [show (Lib.byteCells (Dg.textL l)).length = (Dg.textL l).length by simp [Lib.byteCells]] at hlen
    obtain ⟨N, hN⟩ : ∃ N, (Dg.textL l).length = N := ⟨_, rfl⟩
    rw [hN] at hlen
    refine hlen.mono ?_
    rintro e w3 ⟨rfl, hw3⟩
    subst hw3
    clear hlen
    have HN := hide hN
    clear hN
    have hq2 := HQ2.out
    rw [HN.out] at hq2
    by_cases hbig : 1000000 < N
    · rw [if_pos hbig] at hq2
      cases hq2
      have hbi : (1000000 : Int) < (N : Int) := by omega
      clear HQ2
      go_wp2
      go_ret2
      exact ⟨rfl, hb'⟩
    · rw [if_neg hbig] at hq2
      have hq3 := hide hq2
      have hbi : ¬ (1000000 : Int) < (N : Int) := by omega
      clear HQ2 hq2
      go_wp2_with fail
      have hstr := Tryz.Builder_String_any (w.heap.size + 1) (w.heap.size + 1) _ w3 (HO2.out.is hnb.out) hnw.out
      refine hstr.mono ?_
      rintro e w4 ⟨rfl, hb4⟩
      clear hstr
      have hq4 := hq3.out
      obtain ⟨T, hT⟩ : ∃ T : ByteArray, (⟨(Dg.textL l).toArray⟩ : ByteArray) = T := ⟨_, rfl⟩
      rw [show Dg.B (Dg.textL l) = T from hT] at hq4
      rw [hT]
      cases hq4
      have hb5 : Below w.heap.size w w4 := hb'.trans (hb4.mono (by omega))
      clear hT hq3
      go_wp2
      go_ret2
      exact ⟨rfl, hb5⟩
end Go.Proofs.YtpldhempbdionaaGreatDoor
/- quote, or, line and Text of the reference. No conditions but those that each theorem states. -/
namespace Go.Proofs.YtpldhempbdionaaGreatDoor
open Go Go.RowKit Go.Sort Go.Maps
theorem esc_snoc (l : List UInt8) (k : Nat) (h : k < l.length) : Dg.escL (l.take (k + 1)) = Dg.escL (l.take k) ++ Dg.escC l[k] := by
  unfold Dg.escL
  rw [List.take_succ_eq_append_getElem h, List.flatMap_append, List.flatMap_cons, List.flatMap_nil, List.append_nil]
theorem ext_byte {s : ByteArray} {k : Nat} (h : k < s.size) {x : UInt8} (hx : s[k]'h = x) : s.extract k (k + 1) = Dg.B [x] := by
  have hl : k < (Dg.L s).length := by rw [Dg.len_L]; exact h
  have h1 : (Dg.L s)[k] = x := by
    have h2 : (Dg.L s)[k]? = some (s[k]'h) := Lib.data_getElem? s k h
    rw [List.getElem?_eq_getElem hl, hx] at h2
    exact Option.some.inj h2
  apply Dg.L_inj
  rw [Dg.L_extract, Dg.L_B, List.take_succ_eq_append_getElem hl, h1, List.drop_append_of_le_length (by rw [List.length_take]; omega), List.drop_take, Nat.sub_self, List.take_zero, List.nil_append]
theorem get_L {s : ByteArray} {k : Nat} (h : k < s.size) {x : UInt8} (hx : s[k]'h = x) : ∃ hl : k < (Dg.L s).length, (Dg.L s)[k] = x := by
  have hl : k < (Dg.L s).length := by rw [Dg.len_L]; exact h
  refine ⟨hl, ?_⟩
  have h2 : (Dg.L s)[k]? = some (s[k]'h) := Lib.data_getElem? s k h
  rw [List.getElem?_eq_getElem hl, hx] at h2
  exact Option.some.inj h2
set_option maxRecDepth 100000 in
set_option maxHeartbeats 8000000 in
theorem rquote_of (s : ByteArray) (hs : s.size ≤ 1048576) (R : ByteArray) (hR : Dg.B (Dg.quoteL (Dg.L s)) = R) (w : World) :
    Calls Tryz.prog 87 #[.string s] w fun e w' => e = .returned (.string R) ∧ w' = w := by
  have HR := hide hR
  clear hR
  go_enter Tryz.func87, Tryz.ntmps87
  go_wp2
  go_loop [3, 4] (fun ov iv => ∃ (k : Nat) (o : ByteArray), k ≤ s.size ∧ iv = .int .i64 (k : Int) ∧ ov = .string o ∧ Hid (Dg.L o = 34 :: Dg.escL ((Dg.L s).take k)) ∧ o.size ≤ 2 * k + 1) (fun _ iv => s.size - (intOf iv).toNat)
  case atStart => exact ⟨0, ⟨#[34]⟩, by omega, rfl, rfl, rfl, by decide⟩
  case round =>
    obtain ⟨k, o, hk, rfl, rfl, ho, hoz⟩ := hrel
    by_cases hlt : k < s.size
    · have hkn : (k : Int) < (s.size : Int) := by omega
      have hk0 : (0 : Int) ≤ (k : Int) := by omega
      obtain ⟨x, hx⟩ : ∃ x, s[k]'hlt = x := ⟨_, rfl⟩
      have hext := ext_byte hlt hx
      obtain ⟨hl, hgl⟩ := get_L hlt hx
      have hsn := esc_snoc (Dg.L s) k hl
      rw [hgl] at hsn
      obtain ⟨X1, hX1⟩ : ∃ X1, Dg.B [x] = X1 := ⟨_, rfl⟩
      rw [hX1] at hext
      have hX1s : X1.size = 1 := by rw [← hX1]; rfl
      have HSN := hide hsn; have HX1 := hide hX1
      clear hsn hX1 hgl hl
      by_cases h10 : x = 10
      · subst h10
        go_wp2
        go_round
        case rel => exact ⟨k + 1, o ++ ⟨#[92, 110]⟩, by omega, by go_num, rfl, by show Dg.L _ = _; rw [Dg.L_append, ho.out, HSN.out]; rfl, by rw [ByteArray.size_append]; show o.size + 2 ≤ _; omega⟩
        case measure => simp [intOf]; omega
      · have b10 : ((x.toNat : Int) == 10) = false := beq_eq_false_iff_ne.2 (fun e => h10 (by apply UInt8.toNat_inj.1; show x.toNat = 10; omega))
        have n10 : ¬ ((x.toNat : Int) = 10) := by simpa using b10
        by_cases h34 : x = 34
        · subst h34
          go_wp2
          go_round
          case rel => exact ⟨k + 1, o ++ ⟨#[92]⟩ ++ X1, by omega, by go_num, rfl, by show Dg.L _ = _; rw [Dg.L_append, Dg.L_append, ho.out, HSN.out, ← HX1.out, Dg.L_B]; simp [Dg.escC]; rfl, by rw [ByteArray.size_append, ByteArray.size_append]; show o.size + 1 + X1.size ≤ _; omega⟩
          case measure => simp [intOf]; omega
        · have n34 : ¬ ((x.toNat : Int) = 34) := fun e => h34 (by apply UInt8.toNat_inj.1; show x.toNat = 34; omega)
          by_cases h92 : x = 92
          · subst h92
            go_wp2
            go_round
            case rel => exact ⟨k + 1, o ++ ⟨#[92]⟩ ++ X1, by omega, by go_num, rfl, by show Dg.L _ = _; rw [Dg.L_append, Dg.L_append, ho.out, HSN.out, ← HX1.out, Dg.L_B]; simp [Dg.escC]; rfl, by rw [ByteArray.size_append, ByteArray.size_append]; show o.size + 1 + X1.size ≤ _; omega⟩
            case measure => simp [intOf]; omega
          · have n92 : ¬ ((x.toNat : Int) = 92) := fun e => h92 (by apply UInt8.toNat_inj.1; show x.toNat = 92; omega)
            have hesc : Dg.escC x = [x] := by unfold Dg.escC; rw [if_neg h92, if_neg h34, if_neg h10]
            have HE := hide hesc
            have b34 : ((x.toNat : Int) == 34) = false := beq_eq_false_iff_ne.2 n34
            have b92 : ((x.toNat : Int) == 92) = false := beq_eq_false_iff_ne.2 n92
            clear hesc h10 h34 h92
            go_wp2
            go_round
            case rel => exact ⟨k + 1, o ++ X1, by omega, by go_num, rfl, by show Dg.L _ = _; rw [Dg.L_append, ho.out, HSN.out, HE.out, ← HX1.out, Dg.L_B]; simp, by rw [ByteArray.size_append]; omega⟩
            case measure => simp [intOf]; omega
    · obtain rfl : k = s.size := by omega
      have hfin : o ++ ⟨#[34]⟩ = R := by
        rw [← HR.out]
        apply Dg.L_inj
        have h9 := ho.out
        rw [show (Dg.L s).take s.size = Dg.L s from List.take_of_length_le (Nat.le_of_eq (Dg.len_L s))] at h9
        rw [Dg.L_append, h9, Dg.L_B]
        rfl
      go_wp2
      go_ret
      rw [← hfin]
      exact ⟨rfl, rfl⟩
theorem ror_of (s : ByteArray) (R : ByteArray) (hR : Dg.B (Dg.orL (Dg.L s)) = R) (w : World) :
    Calls Tryz.prog 86 #[.string s] w fun e w' => e = .returned (.string R) ∧ w' = w := by
  by_cases h : Dg.L s = []
  · have he := emp_yes h
    have hr : R = ⟨#[45]⟩ := by rw [← hR]; unfold Dg.orL; rw [if_pos h]; rfl
    subst hr
    clear hR h
    go_enter Tryz.func86, Tryz.ntmps86
    go_wp2
    go_ret
    exact ⟨rfl, rfl⟩
  · have he := emp_no h
    have hr : R = s := by rw [← hR]; unfold Dg.orL; rw [if_neg h, Dg.B_L]
    subst hr
    clear hR h
    go_enter Tryz.func86, Tryz.ntmps86
    go_wp2
    go_ret
    exact ⟨rfl, rfl⟩
theorem line_div {x : Dg.It} (h : x.kind = 1) : Dg.lineL x = Dg.wDiv ++ 32 :: (Dg.L x.id ++ 32 :: (Dg.orL (Dg.L x.parent) ++ 32 :: (Dg.orL (Dg.L x.number) ++ [10]))) := by
  unfold Dg.lineL Dg.wordsI
  rw [if_pos h]
  simp [Dg.joinW]
theorem line_art {x : Dg.It} (h : x.kind ≠ 1) : Dg.lineL x = (if x.gone then Dg.wRep else Dg.wArt) ++ 32 :: (Dg.L x.id ++ 32 :: (Dg.orL (Dg.L x.parent) ++ 32 :: (Dg.orL (Dg.L x.number) ++ 32 :: (Dg.quoteL (Dg.L x.north) ++ 32 :: (Dg.quoteL (Dg.L x.south) ++ [10]))))) := by
  unfold Dg.lineL Dg.wordsI
  rw [if_neg h]
  simp [Dg.joinW]
theorem or_size (s : ByteArray) : (Dg.B (Dg.orL (Dg.L s))).size ≤ s.size + 1 := by
  unfold Dg.orL
  split
  · show 1 ≤ _; omega
  · rw [Dg.B_L]; omega
theorem quote_size (s : ByteArray) : (Dg.B (Dg.quoteL (Dg.L s))).size ≤ 2 * s.size + 2 := by
  have h := Dg.escL_len (Dg.L s)
  rw [Dg.len_L] at h
  show (Dg.quoteL (Dg.L s)).length ≤ _
  unfold Dg.quoteL
  rw [List.length_cons, List.length_append, List.length_singleton]
  omega
set_option maxRecDepth 100000 in
set_option maxHeartbeats 8000000 in
theorem rline_of (x : Dg.It) (hz : ∀ s ∈ Dg.fieldsI x, s.size ≤ 10000) (R : ByteArray) (hR : Dg.B (Dg.lineL x) = R) (w : World) :
    Calls Tryz.prog 56 #[.agg #[.int .i64 x.kind, .string x.id, .string x.parent, .string x.number, .string x.north, .string x.south, .bool x.gone]] w fun e w' => e = .returned (.string R) ∧ Below w.heap.size w w' := by
  have hrow := heap_alloc_new w (.cells #[.int .i64 x.kind, .string x.id, .string x.parent, .string x.number, .string x.north, .string x.south, .bool x.gone] 31)
  have hb1 := Below.news (Below.refl w.heap.size w) (.cells #[.int .i64 x.kind, .string x.id, .string x.parent, .string x.number, .string x.north, .string x.south, .bool x.gone] 31)
  unfold Dg.fieldsI at hz
  simp only [List.mem_cons, List.not_mem_nil, or_false, forall_eq_or_imp, forall_eq] at hz
  obtain ⟨_, z1, z2, z3, z4, z5⟩ := hz
  obtain ⟨P1, hP1⟩ : ∃ P, Dg.B (Dg.orL (Dg.L x.parent)) = P := ⟨_, rfl⟩
  obtain ⟨N1, hN1⟩ : ∃ P, Dg.B (Dg.orL (Dg.L x.number)) = P := ⟨_, rfl⟩
  obtain ⟨Q1, hQ1⟩ : ∃ P, Dg.B (Dg.quoteL (Dg.L x.north)) = P := ⟨_, rfl⟩
  obtain ⟨Q2, hQ2⟩ : ∃ P, Dg.B (Dg.quoteL (Dg.L x.south)) = P := ⟨_, rfl⟩
  have zp : P1.size ≤ 20002 := by rw [← hP1]; have := or_size x.parent; omega
  have zn : N1.size ≤ 20002 := by rw [← hN1]; have := or_size x.number; omega
  have zq : Q1.size ≤ 20002 := by rw [← hQ1]; have := quote_size x.north; omega
  have zs : Q2.size ≤ 20002 := by rw [← hQ2]; have := quote_size x.south; omega
  have HP1 := hide hP1; have HN1 := hide hN1; have HQ1 := hide hQ1; have HQ2 := hide hQ2; have HR := hide hR
  clear hP1 hN1 hQ1 hQ2 hR
  go_enter Tryz.func56, Tryz.ntmps56
  by_cases hk : x.kind = 1
  · have hfin : ⟨#[100, 105, 118, 105, 115, 105, 111, 110, 32]⟩ ++ x.id ++ ⟨#[32]⟩ ++ P1 ++ ⟨#[32]⟩ ++ N1 ++ ⟨#[10]⟩ = R := by
      rw [← HR.out, line_div hk]
      apply Dg.L_inj
      simp only [Dg.L_append, Dg.L_B, ← HP1.out, ← HN1.out]
      simp [Dg.L, Dg.wDiv]
    have HF := hide hfin
    obtain ⟨kk, hkk⟩ : ∃ kk, x.kind = kk := ⟨_, rfl⟩
    obtain ⟨gg, hgg⟩ : ∃ gg, x.gone = gg := ⟨_, rfl⟩
    rw [hkk] at hk hrow hb1 ⊢
    rw [hgg] at hrow hb1 ⊢
    subst hk
    clear hfin hkk hgg
    obtain ⟨c0, c1, c2, c3, c4, c5, c6⟩ := iCells hrow
    cases gg <;>
    (go_wp2_with fail
     go_quiet ((first | (go_at_call_of 86 (Value.string x.parent); exact Calls.quiet_of_same (ror_of x.parent P1 HP1.out _)) | (go_at_call_of 86 (Value.string x.number); exact Calls.quiet_of_same (ror_of x.number N1 HN1.out _))))
     have hb2 := below_drewN hb1 nq
     go_wp2
     go_ret
     rw [← HF.out]
     exact ⟨rfl, hb2⟩)
  · obtain ⟨wd, hwd⟩ : ∃ wd, (if x.gone then Dg.wRep else Dg.wArt) = wd := ⟨_, rfl⟩
    have hfin : Dg.B wd ++ ⟨#[32]⟩ ++ x.id ++ ⟨#[32]⟩ ++ P1 ++ ⟨#[32]⟩ ++ N1 ++ ⟨#[32]⟩ ++ Q1 ++ ⟨#[32]⟩ ++ Q2 ++ ⟨#[10]⟩ = R := by
      rw [← HR.out, line_art hk, hwd]
      apply Dg.L_inj
      simp only [Dg.L_append, Dg.L_B, ← HP1.out, ← HN1.out, ← HQ1.out, ← HQ2.out]
      simp [Dg.L]
    have HF := hide hfin
    obtain ⟨kk, hkk⟩ : ∃ kk, x.kind = kk := ⟨_, rfl⟩
    obtain ⟨gg, hgg⟩ : ∃ gg, x.gone = gg := ⟨_, rfl⟩
    rw [hkk] at hk hrow hb1 ⊢
    rw [hgg] at hrow hb1 hwd ⊢
    have bk : (kk == 1) = false := beq_eq_false_iff_ne.2 hk
    clear hfin hkk hgg
    obtain ⟨c0, c1, c2, c3, c4, c5, c6⟩ := iCells hrow
    cases gg <;>
    (subst hwd
     go_wp2_with fail
     go_quiet ((first | (go_at_call_of 86 (Value.string x.parent); exact Calls.quiet_of_same (ror_of x.parent P1 HP1.out _)) | (go_at_call_of 86 (Value.string x.number); exact Calls.quiet_of_same (ror_of x.number N1 HN1.out _)) | (go_at_call_of 87 (Value.string x.north); exact Calls.quiet_of_same (rquote_of x.north (by omega) Q1 HQ1.out _)) | (go_at_call_of 87 (Value.string x.south); exact Calls.quiet_of_same (rquote_of x.south (by omega) Q2 HQ2.out _))))
     have hb2 := below_drewN hb1 nq
     go_wp2
     go_ret
     rw [← HF.out]
     exact ⟨rfl, hb2⟩)
end Go.Proofs.YtpldhempbdionaaGreatDoor
/- few of the laws. No conditions but those that each theorem states. -/
namespace Go.Proofs.YtpldhempbdionaaGreatDoor
open Go Go.RowKit Go.Sort Go.Maps
/-- A code as it lies: its items, where, and how many there is room for. -/
structure Cd where
  l : List Dg.It
  A : Option Addr
  c : Nat
/-- Codes in a row. -/
structure Cds (w : World) (b : Nat) (ds : List Cd) : Prop where
  lt : b < w.heap.size
  at_ : ∀ (j : Nat) d, ds[j]? = some d → w.cell? ⟨b, j, none⟩ = some (.slice d.A d.l.length d.c) ∧ Its w w.heap.size d.A d.l ∧ d.l.length ≤ 9223372036854775807
theorem Cds.keep {w w' : World} {b : Nat} {ds : List Cd} (h : Cds w b ds) (hb : Below w.heap.size w w') : Cds w' b ds :=
  ⟨Nat.lt_of_lt_of_le h.lt hb.size, fun j d hj => by
    obtain ⟨h1, h2, h3⟩ := h.at_ j d hj
    exact ⟨(hb.cell (p := ⟨b, j, none⟩) h.lt).trans h1, h2.keep hb, h3⟩⟩
set_option maxRecDepth 100000 in
set_option maxHeartbeats 8000000 in
theorem cfew_of (ds : List Cd) (b n : Nat) (hn : ds.length = n) (hm : n ≤ 1000) (w : World) (hD : Cds w b ds) (R : Bool) (hR : (ds.all fun d => fewC d.l 30) = R) :
    Calls Tryz.prog 10 #[.slice (some ⟨b, 0, none⟩) n n] w fun e w' => e = .returned (.bool R) ∧ Below w.heap.size w w' := by
  have HL := hide hn; have HR := hide hR; have HD := hide hD
  clear hn hR hD
  go_enter Tryz.func10, Tryz.ntmps10
  go_wp2
  go_loopw [3] (fun iv wr => ∃ k : Nat, k ≤ n ∧ iv = .int .i64 (k : Int) ∧ Below w.heap.size w wr ∧ Hid (∀ d ∈ ds.take k, fewC d.l 30 = true)) (fun iv _ => n - (intOf iv).toNat)
  case atStart => exact ⟨0, by omega, rfl, Below.refl _ _, fun x hx => by simp at hx⟩
  case round =>
    obtain ⟨k, hk, rfl, hb, hall⟩ := hrel
    by_cases hlt : k < n
    · have hkn : (k : Int) < (n : Int) := by omega
      have hk0 : (0 : Int) ≤ (k : Int) := by omega
      have hkl : k < ds.length := by rw [HL.out]; exact hlt
      have hDr := HD.out.keep hb
      obtain ⟨d, hd⟩ : ∃ d, ds[k] = d := ⟨_, rfl⟩
      obtain ⟨hc, hI, hdl⟩ := hDr.at_ k d (by rw [List.getElem?_eq_getElem hkl, hd])
      have HDD := hide hd
      clear hd hDr
      have hc' : wr.cell? ⟨b, 0 + k, none⟩ = some (.slice d.A d.l.length d.c) := by rw [Nat.zero_add]; exact hc
      go_wp2_with fail
      obtain ⟨F, hF⟩ : ∃ F, fewC d.l 30 = F := ⟨_, rfl⟩
      refine (rfew_of d.l d.A d.l.length d.c 30 rfl hdl (by omega) wr hI F hF).mono ?_
      rintro e w2 ⟨rfl, hb2⟩
      have hb3 := bnext hb hb2
      clear hc hc' hI
      cases F with
      | true =>
        have HF := hide hF
        clear hF
        go_wp2
        go_roundw
        case rel => exact ⟨k + 1, by omega, by go_num, hb3, fun y hy => by
          rw [List.take_succ_eq_append_getElem hkl, HDD.out] at hy
          rcases List.mem_append.1 hy with h | h
          · exact hall.out y h
          · rw [List.mem_singleton.1 h]; exact HF.out⟩
        case measure => simp [intOf]; omega
      | false =>
        have E9 := hide (show false = R by rw [← HR.out]; exact (List.all_eq_false.2 ⟨d, by rw [← HDD.out]; exact List.getElem_mem hkl, by rw [hF]; exact Bool.false_ne_true⟩).symm)
        clear hF
        go_wp2
        go_ret
        exact ⟨ret_bool E9.out, hb3⟩
    · obtain rfl : k = n := by omega
      have E9 := hide (show true = R by rw [← HR.out]; exact (List.all_eq_true.2 (by have h := hall.out; rw [← HL.out, List.take_length] at h; exact h)).symm)
      go_wp2
      go_ret
      exact ⟨ret_bool E9.out, hb⟩
end Go.Proofs.YtpldhempbdionaaGreatDoor
/- The laws' sample of a code. No conditions but those that each theorem states. -/
namespace Go.Proofs.YtpldhempbdionaaGreatDoor
open Go Go.RowKit Go.Sort Go.Maps
def smp : List Dg.It := [⟨1, ⟨#[100, 49]⟩, ⟨#[]⟩, ⟨#[49]⟩, ⟨#[]⟩, ⟨#[]⟩, false⟩, ⟨2, ⟨#[112, 49]⟩, ⟨#[100, 49]⟩, ⟨#[50]⟩, ⟨#[120]⟩, ⟨#[121]⟩, false⟩, ⟨1, ⟨#[100, 50]⟩, ⟨#[100, 49]⟩, ⟨#[]⟩, ⟨#[]⟩, ⟨#[]⟩, false⟩, ⟨2, ⟨#[112, 50]⟩, ⟨#[100, 50]⟩, ⟨#[]⟩, ⟨#[]⟩, ⟨#[]⟩, true⟩, ⟨2, ⟨#[112, 51]⟩, ⟨#[100, 49]⟩, ⟨#[]⟩, ⟨#[]⟩, ⟨#[]⟩, false⟩, ⟨2, ⟨#[112, 52]⟩, ⟨#[]⟩, ⟨#[]⟩, ⟨#[]⟩, ⟨#[]⟩, false⟩]
def smpX : Dg.It := ⟨2, ⟨#[112, 53]⟩, ⟨#[100, 49]⟩, ⟨#[]⟩, ⟨#[]⟩, ⟨#[]⟩, false⟩
def smpT : ByteArray := ⟨([100, 105, 118, 105, 115, 105, 111, 110, 32, 100, 49, 32, 45, 32, 49, 10, 97, 114, 116, 105, 99, 108, 101, 32, 112, 49, 32, 100, 49, 32, 50, 32, 34, 120, 34, 32, 34, 121, 34, 10, 100, 105, 118, 105, 115, 105, 111, 110, 32, 100, 50, 32, 100, 49, 32, 45, 10, 114, 101, 112, 101, 97, 108, 101, 100, 32, 112, 50, 32, 100, 50, 32, 45, 32, 34, 34, 32, 34, 34, 10, 97, 114, 116, 105, 99, 108, 101, 32, 112, 51, 32, 100, 49, 32, 45, 32, 34, 34, 32, 34, 34, 10, 97, 114, 116, 105, 99, 108, 101, 32, 112, 52, 32, 45, 32, 45, 32, 34, 34, 32, 34, 34, 10] : List UInt8).toArray⟩
theorem smp_valid : Dg.validC smp = true := by decide +kernel
theorem smp_bad : Dg.validC (smp ++ [smpX]) = false := by decide +kernel
theorem smp_text : Dg.textC smp = (smpT, 0) := by decide +kernel
theorem smp_below : belowC smp ⟨#[100, 49]⟩ = [⟨#[112, 49]⟩, ⟨#[100, 50]⟩, ⟨#[112, 50]⟩, ⟨#[112, 51]⟩] := by decide +kernel
theorem smp_leaves : (Dg.leavesC smp).length = 5 := by decide +kernel
theorem smp_leaf : (Dg.leavesC smp)[1]? = some ⟨#[49, 58, 97, 50, 58, 112, 49, 50, 58, 100, 49, 49, 58, 120, 49, 58, 121]⟩ := by decide +kernel
theorem smp_under : underC smp ⟨#[112, 50]⟩ ⟨#[100, 49]⟩ = true := by decide +kernel
theorem smp_not : underC smp ⟨#[112, 52]⟩ ⟨#[100, 49]⟩ = false := by decide +kernel
theorem smp_find : findX smp ⟨#[112, 51]⟩ = 4 := by decide +kernel
theorem smp_digest : Dg.isB (Dg.digestC smp) = true := by decide +kernel
theorem smp_dsize : (Dg.digestC smp).size ≤ 1000 := by decide +kernel
theorem smp_w : ∀ x ∈ smp ++ [smpX], ItW x := by
  have h : ∀ x ∈ smp ++ [smpX], (0 ≤ x.kind ∧ x.kind ≤ 2) ∧ x.id.size ≤ 2 ∧ x.parent.size ≤ 2 ∧ x.number.size ≤ 2 ∧ x.north.size ≤ 2 ∧ x.south.size ≤ 2 := by decide +kernel
  intro x hx
  obtain ⟨⟨h0, h1⟩, h2, h3, h4, h5, h6⟩ := h x hx
  exact ⟨by omega, by omega, by omega, by omega, by omega, by omega, by omega⟩
theorem smp_fields : ∀ x ∈ smp, ∀ s ∈ Dg.fieldsI x, s.size ≤ 100 := by decide +kernel
set_option maxRecDepth 100000 in
set_option maxHeartbeats 8000000 in
theorem sample_of (w : World) :
    Calls Tryz.prog 33 #[] w fun e w' => ∃ b, e = .returned (.agg #[.slice (some ⟨b, 0, none⟩) 6 6]) ∧ Its w' w'.heap.size (some ⟨b, 0, none⟩) smp ∧ Below w.heap.size w w' := by
  go_enter Tryz.func33, Tryz.ntmps33
  go_wp2
  have hs1 : (w.alloc (.cells #[.slice (some ⟨w.heap.size + 1, 0, none⟩) 6 6] 24)).heap.size = w.heap.size + 1 := by simp
  have hx1 := Below.news (Below.refl w.heap.size w) (.cells #[.slice (some ⟨w.heap.size + 1, 0, none⟩) 6 6] 24)
  have hr1 := heap_alloc_new w (.cells #[.slice (some ⟨w.heap.size + 1, 0, none⟩) 6 6] 24)
  generalize w.alloc (.cells #[.slice (some ⟨w.heap.size + 1, 0, none⟩) 6 6] 24) = W1 at *
  have hO := OwnI.lit W1 W1.heap.size (Nat.le_refl _) smp 6 rfl (by decide) #[.int .i64 1, .string ⟨#[100, 49]⟩, .string ⟨#[]⟩, .string ⟨#[49]⟩, .string ⟨#[]⟩, .string ⟨#[]⟩, .bool false, .int .i64 2, .string ⟨#[112, 49]⟩, .string ⟨#[100, 49]⟩, .string ⟨#[50]⟩, .string ⟨#[120]⟩, .string ⟨#[121]⟩, .bool false, .int .i64 1, .string ⟨#[100, 50]⟩, .string ⟨#[100, 49]⟩, .string ⟨#[]⟩, .string ⟨#[]⟩, .string ⟨#[]⟩, .bool false, .int .i64 2, .string ⟨#[112, 50]⟩, .string ⟨#[100, 50]⟩, .string ⟨#[]⟩, .string ⟨#[]⟩, .string ⟨#[]⟩, .bool true, .int .i64 2, .string ⟨#[112, 51]⟩, .string ⟨#[100, 49]⟩, .string ⟨#[]⟩, .string ⟨#[]⟩, .string ⟨#[]⟩, .bool false, .int .i64 2, .string ⟨#[112, 52]⟩, .string ⟨#[]⟩, .string ⟨#[]⟩, .string ⟨#[]⟩, .string ⟨#[]⟩, .bool false] rfl
  have hx2 := Below.news (Below.refl W1.heap.size W1) (.cells #[.int .i64 1, .string ⟨#[100, 49]⟩, .string ⟨#[]⟩, .string ⟨#[49]⟩, .string ⟨#[]⟩, .string ⟨#[]⟩, .bool false, .int .i64 2, .string ⟨#[112, 49]⟩, .string ⟨#[100, 49]⟩, .string ⟨#[50]⟩, .string ⟨#[120]⟩, .string ⟨#[121]⟩, .bool false, .int .i64 1, .string ⟨#[100, 50]⟩, .string ⟨#[100, 49]⟩, .string ⟨#[]⟩, .string ⟨#[]⟩, .string ⟨#[]⟩, .bool false, .int .i64 2, .string ⟨#[112, 50]⟩, .string ⟨#[100, 50]⟩, .string ⟨#[]⟩, .string ⟨#[]⟩, .string ⟨#[]⟩, .bool true, .int .i64 2, .string ⟨#[112, 51]⟩, .string ⟨#[100, 49]⟩, .string ⟨#[]⟩, .string ⟨#[]⟩, .string ⟨#[]⟩, .bool false, .int .i64 2, .string ⟨#[112, 52]⟩, .string ⟨#[]⟩, .string ⟨#[]⟩, .string ⟨#[]⟩, .string ⟨#[]⟩, .bool false] 31)
  have hrw := iNext hr1 hx2
  have hb := bnext hx1 hx2
  obtain ⟨A, c, e, _, hI⟩ := hO.its
  rw [hs1] at e
  cases e
  generalize W1.alloc (.cells #[.int .i64 1, .string ⟨#[100, 49]⟩, .string ⟨#[]⟩, .string ⟨#[49]⟩, .string ⟨#[]⟩, .string ⟨#[]⟩, .bool false, .int .i64 2, .string ⟨#[112, 49]⟩, .string ⟨#[100, 49]⟩, .string ⟨#[50]⟩, .string ⟨#[120]⟩, .string ⟨#[121]⟩, .bool false, .int .i64 1, .string ⟨#[100, 50]⟩, .string ⟨#[100, 49]⟩, .string ⟨#[]⟩, .string ⟨#[]⟩, .string ⟨#[]⟩, .bool false, .int .i64 2, .string ⟨#[112, 50]⟩, .string ⟨#[100, 50]⟩, .string ⟨#[]⟩, .string ⟨#[]⟩, .string ⟨#[]⟩, .bool true, .int .i64 2, .string ⟨#[112, 51]⟩, .string ⟨#[100, 49]⟩, .string ⟨#[]⟩, .string ⟨#[]⟩, .string ⟨#[]⟩, .bool false, .int .i64 2, .string ⟨#[112, 52]⟩, .string ⟨#[]⟩, .string ⟨#[]⟩, .string ⟨#[]⟩, .string ⟨#[]⟩, .bool false] 31) = W2 at *
  clear hO hx2 hx1 hr1
  refine bodyPost_ret (results_cell_row (P := Tryz.prog) Tryz.results33 _ _ w.heap.size 24 #[.slice (some ⟨w.heap.size + 1, 0, none⟩) 6 6] (0, 0) _ rfl hrw Tryz.underlying24 rfl (by kernel_rfl)) rfl ⟨_, rfl, hI, hb⟩
end Go.Proofs.YtpldhempbdionaaGreatDoor
/- head of pandectlaw18. No conditions but those that each theorem states. -/
namespace Go.Proofs.YtpldhempbdionaaGreatDoor
open Go Go.RowKit Go.Sort Go.Maps
theorem smp_w1 : ∀ x ∈ smp, ItW x := fun x hx => smp_w x (List.mem_append_left _ hx)
theorem smp_z : ∀ x ∈ smp, ∀ s ∈ Dg.fieldsI x, s.size ≤ 10000 := fun x hx s hs => Nat.le_trans (smp_fields x hx s hs) (by decide)
theorem smp_z2 : ∀ x ∈ smp, ∀ s ∈ Dg.fieldsI x, s.size ≤ 1073741824 := fun x hx s hs => Nat.le_trans (smp_fields x hx s hs) (by decide)
theorem Strs.keep2 {w w' : World} {A : Option Addr} {l : List ByteArray} (h : Strs w w.heap.size A l) (hb : Below w.heap.size w w') : Strs w' w'.heap.size A l := keepS h hb
set_option maxRecDepth 100000 in
set_option maxHeartbeats 16000000 in
theorem head_any (w : World) (he : Env w) :
    Calls Tryz.prog 9 #[] w fun e w' => e = .returned (.bool true) ∧ Below w.heap.size w w' := by
  go_enter Tryz.func9, Tryz.ntmps9
  go_wp2_with fail
  refine (sample_of w).mono ?_
  rintro e w1 ⟨b, rfl, hI1, hb1⟩
  have hn2 := Below.news (Below.refl w1.heap.size w1) (.cells #[.slice (some ⟨b, 0, none⟩) 6 6] 24)
  have hc1 := iCells0 (heap_alloc_new w1 (.cells #[.slice (some ⟨b, 0, none⟩) 6 6] 24))
  have hr1 := heap_alloc_new w1 (.cells #[.slice (some ⟨b, 0, none⟩) 6 6] 24)
  go_wp2_with fail
  have hI2 := hI1.keep hn2
  have hb2 := bnext hb1 hn2
  generalize w1.alloc (.cells #[.slice (some ⟨b, 0, none⟩) 6 6] 24) = w2 at *
  generalize w1.heap.size = b1 at *
  clear hI1 hn2 hb1 w1
  have hT := smp_text
  unfold smpT at hT
  refine (Code.text_of smp (some ⟨b, 0, none⟩) 6 6 rfl smp_w1 (by decide) w2 hI2 smp_z _ 0 hT).mono ?_
  rintro e w3 ⟨rfl, hb3⟩
  clear hT hc1
  have hI3 := hI2.keep hb3
  have hr3 := iNext hr1 hb3
  have hb03 := bnext hb2 hb3
  clear hI2 hr1 hb2 hb3
  go_upto_region 4 with (fail)
  have hn4 := Below.news (Below.refl w3.heap.size w3) (.cells #[] 31)
  have hO4 := OwnI.lit w3 w3.heap.size (Nat.le_refl _) [] 0 rfl (by decide) #[] rfl
  have hc1 := iCells0 (iNext hr3 hn4)
  have HI4 := hide (hI3.keep hn4).src
  have HO4 := hide hO4
  have HN4 := hide hn4
  clear hO4 hn4
  go_upto_region 5 with (first | (at_builtin; refine step_ai rfl (.tmp 14) (.tmp 16) rfl w3.heap.size _ [] smp rfl HO4.out (some ⟨b, 0, none⟩) 6 6 rfl rfl HI4.out (by decide) HN4.out.size ?_; intro v4 u4 hO5 hB5 hg5; obtain ⟨A5, c5, e5, _, _⟩ := hO5.its; subst e5; have HO5 := hide hO5; have HB5 := hide hB5; clear hO5 hB5 hg5) | (at_builtin; refine step_ai rfl (.tmp 17) (.tmp 19) rfl w3.heap.size _ ([] ++ smp) [smpX] rfl (HO5.out.below (Below.news (Below.refl u4.heap.size u4) (.cells #[.int .i64 2, .string ⟨#[112, 53]⟩, .string ⟨#[100, 49]⟩, .string ⟨#[]⟩, .string ⟨#[]⟩, .string ⟨#[]⟩, .bool false] 31))) (some ⟨u4.heap.size, 0, none⟩) 1 1 rfl rfl (by obtain ⟨A9, c9, e9, _, h9⟩ := (OwnI.lit u4 u4.heap.size (Nat.le_refl _) [smpX] 1 rfl (by decide) #[.int .i64 2, .string ⟨#[112, 53]⟩, .string ⟨#[100, 49]⟩, .string ⟨#[]⟩, .string ⟨#[]⟩, .string ⟨#[]⟩, .bool false] rfl).its; cases e9; exact h9.src) (by decide) (Nat.le_trans (Nat.le_trans HN4.out.size HB5.out.size) (Below.news (Below.refl u4.heap.size u4) (.cells #[.int .i64 2, .string ⟨#[112, 53]⟩, .string ⟨#[100, 49]⟩, .string ⟨#[]⟩, .string ⟨#[]⟩, .string ⟨#[]⟩, .bool false] 31)).size) ?_; intro v5 u5 hO6 hB6 hg6; obtain ⟨A6, c6, e6, _, hI6⟩ := hO6.its; subst e6; clear hg6))
  have hB7 : Below w3.heap.size w3 u5 := ((HN4.out.trans HB5.out).trans ((Below.news (Below.refl u4.heap.size u4) (.cells #[.int .i64 2, .string ⟨#[112, 53]⟩, .string ⟨#[100, 49]⟩, .string ⟨#[]⟩, .string ⟨#[]⟩, .string ⟨#[]⟩, .bool false] 31)).mono (Nat.le_trans HN4.out.size HB5.out.size))).trans hB6
  have hr5 := iNext hr3 hB7
  have hI5 := hI3.keep hB7
  have hb05 := bnext hb03 hB7
  clear hc1 HI4 HO4 HN4 HO5 HB5 hB6 hO6 hB7 hb03 hI3 hr3
  have hn8 := Below.news (Below.refl u5.heap.size u5) (.cells #[.slice A6 (smp.length + 1) c6] 24)
  have hrB := heap_alloc_new u5 (.cells #[.slice A6 (smp.length + 1) c6] 24)
  have hrA := iNext hr5 hn8
  have hIA := hI5.keep hn8
  have hIB : Its (u5.alloc (.cells #[.slice A6 (smp.length + 1) c6] 24)) (u5.alloc (.cells #[.slice A6 (smp.length + 1) c6] 24)).heap.size A6 (smp ++ [smpX]) := hI6.keep hn8
  have hb08 := bnext hb05 hn8
  clear hr5 hI5 hI6 hb05 hn8
  generalize u5.alloc (.cells #[.slice A6 (smp.length + 1) c6] 24) = u6 at *
  generalize u5.heap.size = b5 at *
  have hmx : Tryz.prog.follows .mixedOrders = true := by kernel_rfl
  refine wp_region_noPanic ?_
  refine wp_region_L (fun X_ : World => X_.heap[b1]? = some (.cells #[.slice (some ⟨b, 0, none⟩) 6 6] 24 (0, 0))) 6 hmx ?_
  have hdr := (Below.refl u6.heap.size u6).drew
  have hHeld : (fun X_ : World => X_.heap[b1]? = some (.cells #[.slice (some ⟨b, 0, none⟩) 6 6] 24 (0, 0))) u6.drew := iNext hrA hdr
  have hrB1 := iNext hrB hdr
  have hIA1 := hIA.keep hdr
  have hIB1 := hIB.keep hdr
  have hb09 := bnext hb08 hdr
  clear hrA hrB hIA hIB hb08 hdr
  generalize u6.drew = u7 at *
  refine wpAnyL_take (i := 0) (f0 := 12) (v := ?_) rfl (by decide +kernel) (by decide +kernel) (by decide +kernel) (by decide +kernel) (by decide +kernel) (fun _ _ _ h => h) (Or.inl ⟨by rfl, ?_⟩) hHeld ?_
  rotate_left
  · intro wS hS; have c9 := iCells0 hS; go_simp; (try with_reducible rfl)
  simp only [Act.put, List.getElem_toArray, List.getElem_cons_zero, List.setIfInBounds_toArray, List.set_cons_succ, List.set_cons_zero]
  refine wpAnyL_take (i := 2) (f0 := 12) (v := ?_) rfl (by decide +kernel) (by decide +kernel) (by decide +kernel) (by decide +kernel) (by decide +kernel) (fun _ _ _ h => h) (Or.inl ⟨by rfl, ?_⟩) hHeld ?_
  rotate_left
  · intro wS hS; have c9 := iCells0 hS; go_simp; (try with_reducible rfl)
  simp only [Act.put, List.getElem_toArray, List.getElem_cons_succ, List.getElem_cons_zero, List.setIfInBounds_toArray, List.set_cons_succ, List.set_cons_zero]
  refine wpAnyL_one (i := 1) (by decide +kernel) (by rfl) (fun K hK => ?_)
  rw [if_pos (by rfl)]
  go_simp
  refine (Code.below_of smp (some ⟨b, 0, none⟩) 6 6 rfl smp_w1 (by decide) ⟨#[100, 49]⟩ u7 hIA1 _ smp_below).mono ?_
  rintro e u8 ⟨⟨A7, c7, rfl, hc7, hS7⟩, hb8⟩
  have hHeld8 : (fun X_ : World => X_.heap[b1]? = some (.cells #[.slice (some ⟨b, 0, none⟩) 6 6] 24 (0, 0))) u8 := iNext hHeld hb8
  refine hK.out _ _ (Or.inr hHeld8) ?_
  clear hK K hHeld
  have hrB2 := iNext hrB1 hb8
  have hIA2 := hIA1.keep hb8
  have hIB2 := hIB1.keep hb8
  have hb10 := bnext hb09 hb8
  have he8 := he.next hb10
  clear hrB1 hIA1 hIB1 hb09 hb8
  try simp only [Act.put, List.getElem_toArray, List.getElem_cons_succ, List.getElem_cons_zero, List.setIfInBounds_toArray, List.set_cons_succ, List.set_cons_zero]
  refine wpAnyL_one (i := 3) (by decide +kernel) (by rfl) (fun K hK => ?_)
  rw [if_pos (by rfl)]
  go_simp
  obtain ⟨LV, hLV⟩ : ∃ L, Dg.leavesC smp = L := ⟨_, rfl⟩
  have hL1 := smp_leaves
  have hL2 := smp_leaf
  rw [hLV] at hL1 hL2
  refine (Code.leaves_of smp (some ⟨b, 0, none⟩) 6 6 rfl smp_w1 (by decide) u8 he8 hIA2 smp_z2 LV hLV).mono ?_
  rintro e u9 ⟨⟨A8, c8, rfl, hc8, hS8⟩, hb9⟩
  have hHeld9 : (fun X_ : World => X_.heap[b1]? = some (.cells #[.slice (some ⟨b, 0, none⟩) 6 6] 24 (0, 0))) u9 := iNext hHeld8 hb9
  refine hK.out _ _ (Or.inr hHeld9) ?_
  clear hK K hHeld8
  have hrB3 := iNext hrB2 hb9
  have hIA3 := hIA2.keep hb9
  have hIB3 := hIB2.keep hb9
  have hb11 := bnext hb10 hb9
  have hS7' := hS7.keep2 hb9
  clear hrB2 hIA2 hIB2 hb10 hb9 he8 hS7
  try simp only [Act.put, List.getElem_toArray, List.getElem_cons_succ, List.getElem_cons_zero, List.setIfInBounds_toArray, List.set_cons_succ, List.set_cons_zero]
  have HL2 := hide hL2
  have HLV := hide hLV
  clear hL2 hLV
  rw [hL1]
  rw [hL1] at hc8
  refine wpAnyL_one (i := 4) (by decide +kernel) (by rfl) (fun K hK => ?_)
  rw [if_pos (by rfl)]
  go_simp
  refine hK.out _ _ (Or.inr hHeld9) ?_
  clear hK K
  try simp only [Act.put, List.getElem_toArray, List.getElem_cons_succ, List.getElem_cons_zero, List.setIfInBounds_toArray, List.set_cons_succ, List.set_cons_zero]
  refine wpAnyL_one (i := 5) (by decide +kernel) (by rfl) (fun K hK => ?_)
  rw [if_pos (by rfl)]
  go_simp
  refine hK.out _ _ (Or.inr hHeld9) ?_
  clear hK K
  try simp only [Act.put, List.getElem_toArray, List.getElem_cons_succ, List.getElem_cons_zero, List.setIfInBounds_toArray, List.set_cons_succ, List.set_cons_zero]
  refine wpAnyL_done (by decide +kernel) ?_ _
  refine NoPanic.normal ?_
  have hcA := iCells0 hHeld9
  have hcB := iCells0 hrB3
  generalize u9 = u20 at *
  go_wp2_with fail
  have hA20 := hHeld9; have hB20 := hrB3; have hI20 := hIA3; have hJ20 := hIB3; have hS720 := hS7'; have hS820 := hS8; have hb20 := hb11
  clear hHeld9 hrB3 hIA3 hIB3 hS7' hS8 hb11
  refine (Code.valid_of smp (some ⟨b, 0, none⟩) 6 6 rfl smp_w1 (by decide) u20 hI20 true smp_valid).mono ?_
  rintro e u21 ⟨rfl, hx21⟩
  have hA21 := iNext hA20 hx21
  have hB21 := iNext hB20 hx21
  have hI21 := hI20.keep hx21
  have hJ21 := hJ20.keep hx21
  have hS721 := hS720.keep2 hx21
  have hS821 := hS820.keep2 hx21
  have hb21 := bnext hb20 hx21
  clear hx21 hb20 hA20 hB20 hI20 hJ20 hS720 hS820
  clear hcA hcB
  have hcA := iCells0 hA21
  have hcB := iCells0 hB21
  go_wp2_with fail
  refine (Code.valid_of (smp ++ [smpX]) A6 (smp.length + 1) c6 (by simp) smp_w (by decide) u21 hJ21 false smp_bad).mono ?_
  rintro e u22 ⟨rfl, hx22⟩
  have hA22 := iNext hA21 hx22
  have hI22 := hI21.keep hx22
  have hS722 := hS721.keep2 hx22
  have hS822 := hS821.keep2 hx22
  have hb22 := bnext hb21 hx22
  clear hx22 hb21 hA21 hB21 hI21 hJ21 hS721 hS821
  clear hcA hcB
  have hcA := iCells0 hA22
  go_wp2_with fail
  have hnL := Below.news (Below.refl u22.heap.size u22) (.cells #[.string ⟨#[112, 49]⟩, .string ⟨#[100, 50]⟩, .string ⟨#[112, 50]⟩, .string ⟨#[112, 51]⟩] 9)
  have hSl := Strs.new u22 [⟨#[112, 49]⟩, ⟨#[100, 50]⟩, ⟨#[112, 50]⟩, ⟨#[112, 51]⟩] #[.string ⟨#[112, 49]⟩, .string ⟨#[100, 50]⟩, .string ⟨#[112, 50]⟩, .string ⟨#[112, 51]⟩] 9 rfl
  have hAL := iNext hA22 hnL; have hIL := hI22.keep hnL; have h7L := hS722.keep2 hnL; have h8L := hS822.keep2 hnL; have hbL := bnext hb22 hnL
  clear hA22 hI22 hS722 hS822 hb22 hnL
  generalize u22.alloc (.cells #[.string ⟨#[112, 49]⟩, .string ⟨#[100, 50]⟩, .string ⟨#[112, 50]⟩, .string ⟨#[112, 51]⟩] 9) = u23 at *
  have hA23 := hAL; have hI23 := hIL; have hS723 := h7L; have hS823 := h8L; have hb23 := hbL
  clear hAL hIL h7L h8L hbL
  refine (same_of A7 _ c7 4 [⟨#[112, 49]⟩, ⟨#[100, 50]⟩, ⟨#[112, 50]⟩, ⟨#[112, 51]⟩] [⟨#[112, 49]⟩, ⟨#[100, 50]⟩, ⟨#[112, 50]⟩, ⟨#[112, 51]⟩] 4 4 rfl rfl true (by decide +kernel) u23 (by decide) (by decide) hS723 hSl).mono ?_
  rintro e u24 ⟨rfl, hx24⟩
  have hA24 := iNext hA23 hx24
  have hI24 := hI23.keep hx24
  have hS824 := hS823.keep2 hx24
  have hb24 := bnext hb23 hx24
  clear hx24 hb23 hA23 hI23 hS723 hS823
  clear hcA
  have hcA := iCells0 hA24
  go_wp2_with fail
  refine (Code.under_of smp (some ⟨b, 0, none⟩) 6 6 rfl smp_w1 (by decide) ⟨#[112, 50]⟩ ⟨#[100, 49]⟩ u24 hI24 true smp_under).mono ?_
  rintro e u25 ⟨rfl, hx25⟩
  have hA25 := iNext hA24 hx25
  have hI25 := hI24.keep hx25
  have hS825 := hS824.keep2 hx25
  have hb25 := bnext hb24 hx25
  clear hx25 hb24 hA24 hI24 hS824
  clear hcA
  have hcA := iCells0 hA25
  go_wp2_with fail
  refine (Code.under_of smp (some ⟨b, 0, none⟩) 6 6 rfl smp_w1 (by decide) ⟨#[112, 52]⟩ ⟨#[100, 49]⟩ u25 hI25 false smp_not).mono ?_
  rintro e u26 ⟨rfl, hx26⟩
  have hA26 := iNext hA25 hx26
  have hI26 := hI25.keep hx26
  have hS826 := hS825.keep2 hx26
  have hb26 := bnext hb25 hx26
  clear hx26 hb25 hA25 hI25 hS825
  clear hcA
  have hcA := iCells0 hA26
  obtain ⟨b8, off8, rfl, hb8l, hc8f⟩ := hS826.at_ (by rw [hL1]; decide)
  have hc81 := hc8f 1 _ HL2.out
  clear hc8f
  go_wp2_with fail
  clear hc81
  refine (Code.find_of smp (some ⟨b, 0, none⟩) 6 6 rfl (by decide) ⟨#[112, 51]⟩ u26 hI26 4 smp_find).mono ?_
  rintro e u27 ⟨rfl, hx27⟩
  have hA27 := iNext hA26 hx27
  have hI27 := hI26.keep hx27
  have hb27 := bnext hb26 hx27
  clear hx27 hb26 hA26 hI26 hS826
  clear hcA
  have hcA := iCells0 hA27
  go_wp2_with fail
  obtain ⟨DG, hDG⟩ : ∃ D, Dg.digestC smp = D := ⟨_, rfl⟩
  have hD1 := smp_digest
  have hD2 := smp_dsize
  rw [hDG] at hD1 hD2
  refine (Code.digest_of smp (some ⟨b, 0, none⟩) 6 6 rfl smp_w1 (by decide) u27 (he.next hb27) hI27 smp_z DG hDG).mono ?_
  rintro e u28 ⟨rfl, hx28⟩
  have hA28 := iNext hA27 hx28
  have hb28 := bnext hb27 hx28
  clear hx28 hb27 hA27 hI27
  clear hcA
  have hcA := iCells0 hA28
  go_wp2_with fail
  refine (is_of DG true hD1 (by omega) u28).mono ?_
  rintro e u29 ⟨rfl, hx29⟩
  have hb29 := bnext hb28 hx29
  clear hx29 hb28 hA28
  clear hcA
  go_wp2
  go_ret
  exact ⟨rfl, hb29⟩
end Go.Proofs.YtpldhempbdionaaGreatDoor

