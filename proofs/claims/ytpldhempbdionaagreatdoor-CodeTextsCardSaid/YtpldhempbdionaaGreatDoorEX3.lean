/- Walks and laws of this seat, several texts in one. No conditions but those that each theorem states. -/
import Derived.Test.YtpldhempbdionaaGreatDoorEX2
import Derived.Lib.SplitLaws
import Derived.Laws.StructEq
import Derived.Test.YtpldhempbdionaaGreatDoorShelf
import Derived.Laws.ResultCell
/- quote of package code. No conditions but those that each theorem states. -/
namespace Go.Proofs.YtpldhempbdionaaGreatDoor
open Go Go.RowKit Go.Sort Go.Maps
/-- A scanner in block sb, what is left of its text in block ib. -/
structure ScAt (sb ib : Nat) (line s : ByteArray) (X : World) : Prop where
  sc : X.heap[sb]? = some (.cells #[.pointer (some ⟨ib, 0, none⟩), .string line] 85 (0, 0))
  inp : InAt ib s X
theorem ScAt.below {sb ib : Nat} {line s : ByteArray} {X X' : World} (h : ScAt sb ib line s X) (hb : Below X.heap.size X X') : ScAt sb ib line s X' := ⟨iNext h.sc hb, h.inp.below hb⟩
theorem ScAt.next {sb ib : Nat} {line s t : ByteArray} {X X' : World} (h : ScAt sb ib line s X) (hne : sb ≠ ib) (ho : Off [ib] X X') (hi : InAt ib t X') : ScAt sb ib line t X' := ⟨ho.row h.sc (fun hm => hne (List.mem_singleton.1 hm)), hi⟩
theorem emp_yes {s : ByteArray} (h : Dg.L s = []) : s.toList.isEmpty = true := by rw [Lib.toList_data]; show (Dg.L s).isEmpty = true; rw [h]; rfl
theorem emp_no {s : ByteArray} (h : Dg.L s ≠ []) : s.toList.isEmpty = false := by
  rw [Lib.toList_data]
  show (Dg.L s).isEmpty = false
  cases hl : Dg.L s with
  | nil => exact absurd hl h
  | cons a r => rfl
theorem get_cut {line r : ByteArray} {q : List UInt8} {d : UInt8} (h : Dg.L line = (q ++ [d]) ++ Dg.L r) : ∃ K, line.size = K + 1 + r.size ∧ ∃ hk : K < line.size, line[K]'hk = d := by
  have h1 : line.size = q.length + 1 + r.size := by
    rw [← Dg.len_L, h, List.length_append, List.length_append, Dg.len_L]
    rfl
  have hk : q.length < line.size := by omega
  refine ⟨q.length, h1, hk, ?_⟩
  have h2 : (Dg.L line)[q.length]? = some (line[q.length]'hk) := Lib.data_getElem? line q.length hk
  rw [h, List.append_assoc, List.getElem?_append_right (Nat.le_refl _), Nat.sub_self] at h2
  simpa using h2.symm
theorem ext_one {s : ByteArray} {c : UInt8} {r : List UInt8} (h : Dg.L s = c :: r) : s.extract 0 1 = Dg.B [c] ∧ s.extract 1 s.size = Dg.B r := by
  constructor
  · apply Dg.L_inj
    rw [Dg.L_extract, h, Dg.L_B]
    rfl
  · apply Dg.L_inj
    rw [Dg.L_extract, show (Dg.L s).take s.size = Dg.L s from List.take_of_length_le (Nat.le_of_eq (Dg.len_L s)), h, Dg.L_B]
    rfl
set_option maxRecDepth 100000 in
set_option maxHeartbeats 16000000 in
theorem quote_any (sb ib : Nat) (hne : sb ≠ ib) (line s : ByteArray) (hz : line.size ≤ 1000000) (pre : List UInt8) (hpre : Dg.L line = pre ++ Dg.L s) (w : World) (h : ScAt sb ib line s w) (G1 G2 : List UInt8) (hG : Dg.quoteP (Dg.L s) = (G1, G2)) :
    Calls Tryz.prog 59 #[.pointer (some ⟨sb, 0, none⟩)] w fun e w' => e = .returned (.string (Dg.B G1)) ∧ ScAt sb ib line (Dg.B G2) w' ∧ Off [ib] w w' := by
  have hmx : Tryz.prog.follows .mixedOrders = true := by kernel_rfl
  have hsz : s.size ≤ 1000000 := by
    have := congrArg List.length hpre
    rw [List.length_append, Dg.len_L, Dg.len_L] at this
    omega
  obtain ⟨I1, I2, hI⟩ : ∃ I1 I2, Dg.insideP s.size (Dg.untilP [34] (Dg.L s)).2 = (I1, I2) := ⟨_, _, rfl⟩
  have hGI : G1 = I1 ∧ G2 = I2.tail := by
    unfold Dg.quoteP at hG
    rw [Dg.len_L, hI] at hG
    cases hG
    exact ⟨rfl, rfl⟩
  obtain ⟨rfl, rfl⟩ := hGI
  have HI := hide hI; have HP := hide hpre; have HZ := hide hz
  clear hG hI hpre hz
  obtain ⟨hc1, hc2⟩ := iCells2 h.sc
  go_enter Tryz.func59, Tryz.ntmps59
  go_wp2_with fail
  refine (until_any ib s hsz ⟨#[34]⟩ [34] rfl (by decide) (by decide) (by decide) w h.inp).mono ?_
  rintro e w1 ⟨rfl, hi1, ho1⟩
  have hS1 := h.next hne ho1 hi1
  clear hi1 hc1 hc2
  have hu := unt_size [34] s
  go_wp2
  go_loopg [3, 4, 5] s.size (fun g ov _ _ wx => ∃ (a r : ByteArray) (q : List UInt8), r.size ≤ g ∧ a.size + r.size ≤ 1000000 ∧ ov = .string a ∧ ScAt sb ib line r wx ∧ Off [ib] w wx ∧ Dg.L line = q ++ Dg.L r ∧ Dg.L a ++ (Dg.insideP g (Dg.L r)).1 = G1 ∧ (Dg.insideP g (Dg.L r)).2 = I2)
  case atStart =>
    obtain ⟨q, hq⟩ := Dg.until_tail [34] (Dg.L s)
    refine ⟨⟨#[]⟩, unt2 [34] s, pre ++ q, by omega, by show 0 + _ ≤ _; omega, rfl, hS1, ho1, ?_, ?_, ?_⟩
    · rw [HP.out, List.append_assoc, (unt_L [34] s).2, ← hq]
    · rw [(unt_L [34] s).2, HI.out]; rfl
    · rw [(unt_L [34] s).2, HI.out]
  case round =>
    clear hS1 hu ho1
    obtain ⟨a, r, q, hrg, har, rfl, hS, hO, hq, hg1, hg2⟩ := hrel
    have HQ := hide hq; have HG1 := hide hg1; have HG2 := hide hg2; have HO := hide hO
    clear hq hg1 hg2 hO
    obtain ⟨hc1, hc2⟩ := iCells2 hS.sc
    go_wp2_with fail
    refine (until_any ib r (by omega) ⟨#[92, 34]⟩ [92, 34] rfl (by decide) (by decide) (by decide) wr hS.inp).mono ?_
    rintro e w2 ⟨rfl, hi2, ho2⟩
    have hS2 := hS.next hne ho2 hi2
    have hO2 := HO.out.trans ho2 (fun _ h => Or.inl h)
    clear hS hi2 ho2 HO hc1 hc2
    obtain ⟨u, hu⟩ : ∃ u, unt1 [92, 34] r = u := ⟨_, rfl⟩
    obtain ⟨r2, hr2⟩ : ∃ r2, unt2 [92, 34] r = r2 := ⟨_, rfl⟩
    have hus := unt_size [92, 34] r
    obtain ⟨hL1, hL2⟩ := unt_L [92, 34] r
    rw [hu] at hL1 hus
    rw [hr2] at hL2 hus hS2
    rw [hu]
    have hst := Dg.inside_step gk (Dg.L r) (by rw [Dg.len_L]; exact hrg)
    have hsp := Dg.until_split [92, 34] (Dg.L r)
    rw [← hL2] at hst hsp
    rw [← hL1] at hst hsp
    have HL1 := hide hL1
    clear hu hr2 hL1 hL2
    obtain ⟨hc1, hc2⟩ := iCells2 hS2.sc
    have hi := iCells0 hS2.inp
    have HST := hide hst; have HSP := hide hsp
    clear hst hsp
    go_wp2_with fail
    go_quiet (fail)
    have hb3 : Below w2.heap.size w2 (w2.drewN nq) := ⟨rfl, rfl, rfl, Nat.le_refl _, fun _ _ => rfl⟩
    have hS3 := hS2.below hb3
    have hO3 := hO2.next hb3
    clear hS2 hO2 hb3 hc1 hc2 hi
    generalize w2.drewN nq = w3 at *
    obtain ⟨hc1, hc2⟩ := iCells2 hS3.sc
    have hi := iCells0 hS3.inp
    rcases HST.out with ⟨hr0, hin⟩ | ⟨c, r', hr0, h92, hlt, hrg', hin⟩ | ⟨c, r', hr0, h92, hin⟩
    · have he := emp_yes hr0
      have hg1 := HG1.out; have hg2 := HG2.out
      rw [hin] at hg1 hg2
      have e1 : Dg.B G1 = a ++ u := by rw [← hg1]; apply Dg.L_inj; rw [Dg.L_B, Dg.L_append]
      have e2 : Dg.B I2.tail = r2 := by rw [← hg2]; apply Dg.L_inj; rw [Dg.L_B, hr0]; rfl
      clear HST HSP HG1 HG2 HI hg1 hg2 hin
      go_wp2
      go_ret
      rw [e1, e2]
      exact ⟨rfl, hS3, hO3⟩
    · have hne' : Dg.L r2 ≠ [] := by rw [hr0]; simp
      obtain ⟨d, hd, hcut⟩ := HSP.out hne'
      rw [h92] at hd
      cases hd
      have hq2 : Dg.L line = ((q ++ Dg.L u) ++ [92]) ++ Dg.L r2 := by rw [HQ.out, hcut]; simp
      obtain ⟨KK, hsz2, hkl, hk92⟩ := get_cut hq2
      have hz := HZ.out
      have hk4 : wrap64 (wrap64 ((line.size : Int) - (r2.size : Int)) - 1) = (KK : Int) := by unfold wrap64; omega
      have hk0 : ¬ ((KK : Int) < 0) := by omega
      have he := emp_no hne'
      have HR0 := hide hr0; have HRG := hide hrg'; have HLT := hide hlt
      have hr2s : 1 ≤ r2.size := by
        have h9 := Dg.len_L r2
        rw [hr0] at h9
        simp only [List.length_cons] at h9
        omega
      have hr2i : (1 : Int) ≤ (r2.size : Int) := by omega
      obtain ⟨hx1, hx2⟩ := ext_one hr0
      have HX2 := hide hx2; have HIN := hide hin
      obtain ⟨C1, hC1⟩ : ∃ C1, Dg.B [c] = C1 := ⟨_, rfl⟩
      rw [hC1] at hx1
      clear hx2 hne' hcut HST HSP hin
      have HQ2 := hide hq2
      clear hq2 hsz2 hr0 hz hrg' hlt
      go_wp2_with fail
      clear hc1 hc2 hi
      refine wp_region_noPanic ?_
      refine wp_region_L (ScAt sb ib line r2) 14 hmx ?_
      have hb4 := (Below.refl w3.heap.size w3).drew
      have hS4 := hS3.below hb4
      have hO4 := hO3.next hb4
      clear hS3 hO3 hb4
      generalize w3.drew = w4 at *
      refine wpAnyL_take (i := 0) (f0 := 17) (v := ?_) rfl (by decide +kernel) (by decide +kernel) (by decide +kernel) (by decide +kernel) (by decide +kernel) (fun _ _ _ h => h) (Or.inl ⟨by rfl, ?_⟩) hS4 ?_
      rotate_left
      · intro wS hS; go_simp; (try with_reducible rfl)
      simp only [Act.put, List.getElem_toArray, List.getElem_cons_zero, List.setIfInBounds_toArray, List.set_cons_succ, List.set_cons_zero]
      refine wpAnyL_take (i := 1) (f0 := 17) (v := ?_) rfl (by decide +kernel) (by decide +kernel) (by decide +kernel) (by decide +kernel) (by decide +kernel) (fun _ _ _ h => h) (Or.inl ⟨by rfl, ?_⟩) hS4 ?_
      rotate_left
      · intro wS hS; go_simp; (try with_reducible rfl)
      simp only [Act.put, List.getElem_toArray, List.getElem_cons_succ, List.getElem_cons_zero, List.setIfInBounds_toArray, List.set_cons_succ, List.set_cons_zero]
      refine wpAnyL_take (i := 2) (f0 := 17) (v := ?_) rfl (by decide +kernel) (by decide +kernel) (by decide +kernel) (by decide +kernel) (by decide +kernel) (fun _ _ _ h => h) (Or.inl ⟨by rfl, ?_⟩) hS4 ?_
      rotate_left
      · intro wS hS; go_simp; (try with_reducible rfl)
      simp only [Act.put, List.getElem_toArray, List.getElem_cons_succ, List.getElem_cons_zero, List.setIfInBounds_toArray, List.set_cons_succ, List.set_cons_zero]
      refine wpAnyL_take (i := 3) (f0 := 17) (v := ?_) rfl (by decide +kernel) (by decide +kernel) (by decide +kernel) (by decide +kernel) (by decide +kernel) (fun _ _ _ h => h) (Or.inl ⟨by rfl, ?_⟩) hS4 ?_
      rotate_left
      · intro wS hS; have c9 := (iCells2 hS.sc).1; go_simp; (try with_reducible rfl)
      simp only [Act.put, List.getElem_toArray, List.getElem_cons_succ, List.getElem_cons_zero, List.setIfInBounds_toArray, List.set_cons_succ, List.set_cons_zero]
      refine wpAnyL_take (i := 4) (f0 := 17) (v := ?_) rfl (by decide +kernel) (by decide +kernel) (by decide +kernel) (by decide +kernel) (by decide +kernel) (fun _ _ _ h => h) (Or.inl ⟨by rfl, ?_⟩) hS4 ?_
      rotate_left
      · intro wS hS; go_simp; (try with_reducible rfl)
      simp only [Act.put, List.getElem_toArray, List.getElem_cons_succ, List.getElem_cons_zero, List.setIfInBounds_toArray, List.set_cons_succ, List.set_cons_zero]
      refine wpAnyL_take (i := 5) (f0 := 17) (v := ?_) rfl (by decide +kernel) (by decide +kernel) (by decide +kernel) (by decide +kernel) (by decide +kernel) (fun _ _ _ h => h) (Or.inl ⟨by rfl, ?_⟩) hS4 ?_
      rotate_left
      · intro wS hS; go_simp; (try with_reducible rfl)
      simp only [Act.put, List.getElem_toArray, List.getElem_cons_succ, List.getElem_cons_zero, List.setIfInBounds_toArray, List.set_cons_succ, List.set_cons_zero]
      refine wpAnyL_take (i := 6) (f0 := 17) (v := ?_) rfl (by decide +kernel) (by decide +kernel) (by decide +kernel) (by decide +kernel) (by decide +kernel) (fun _ _ _ h => h) (Or.inl ⟨by rfl, ?_⟩) hS4 ?_
      rotate_left
      · intro wS hS; go_simp; (try with_reducible rfl)
      simp only [Act.put, List.getElem_toArray, List.getElem_cons_succ, List.getElem_cons_zero, List.setIfInBounds_toArray, List.set_cons_succ, List.set_cons_zero]
      refine wpAnyL_take (i := 7) (f0 := 17) (v := ?_) rfl (by decide +kernel) (by decide +kernel) (by decide +kernel) (by decide +kernel) (by decide +kernel) (fun _ _ _ h => h) (Or.inl ⟨by rfl, ?_⟩) hS4 ?_
      rotate_left
      · intro wS hS; have c9 := (iCells2 hS.sc).1; go_simp; (try with_reducible rfl)
      simp only [Act.put, List.getElem_toArray, List.getElem_cons_succ, List.getElem_cons_zero, List.setIfInBounds_toArray, List.set_cons_succ, List.set_cons_zero]
      refine wpAnyL_take (i := 8) (f0 := 17) (v := ?_) rfl (by decide +kernel) (by decide +kernel) (by decide +kernel) (by decide +kernel) (by decide +kernel) (fun _ _ _ h => h) (Or.inl ⟨by rfl, ?_⟩) hS4 ?_
      rotate_left
      · intro wS hS; go_simp; (try with_reducible rfl)
      simp only [Act.put, List.getElem_toArray, List.getElem_cons_succ, List.getElem_cons_zero, List.setIfInBounds_toArray, List.set_cons_succ, List.set_cons_zero]
      refine wpAnyL_take (i := 9) (f0 := 17) (v := ?_) rfl (by decide +kernel) (by decide +kernel) (by decide +kernel) (by decide +kernel) (by decide +kernel) (fun _ _ _ h => h) (Or.inl ⟨by rfl, ?_⟩) hS4 ?_
      rotate_left
      · intro wS hS; go_simp; (try with_reducible rfl)
      simp only [Act.put, List.getElem_toArray, List.getElem_cons_succ, List.getElem_cons_zero, List.setIfInBounds_toArray, List.set_cons_succ, List.set_cons_zero]
      refine wpAnyL_take (i := 10) (f0 := 17) (v := ?_) rfl (by decide +kernel) (by decide +kernel) (by decide +kernel) (by decide +kernel) (by decide +kernel) (fun _ _ _ h => h) (Or.inl ⟨by rfl, ?_⟩) hS4 ?_
      rotate_left
      · intro wS hS; have c9 := iCells0 hS.inp; go_simp; (try with_reducible rfl)
      simp only [Act.put, List.getElem_toArray, List.getElem_cons_succ, List.getElem_cons_zero, List.setIfInBounds_toArray, List.set_cons_succ, List.set_cons_zero]
      refine wpAnyL_take (i := 11) (f0 := 17) (v := ?_) rfl (by decide +kernel) (by decide +kernel) (by decide +kernel) (by decide +kernel) (by decide +kernel) (fun _ _ _ h => h) (Or.inl ⟨by rfl, ?_⟩) hS4 ?_
      rotate_left
      · intro wS hS; go_simp; (try with_reducible rfl)
      simp only [Act.put, List.getElem_toArray, List.getElem_cons_succ, List.getElem_cons_zero, List.setIfInBounds_toArray, List.set_cons_succ, List.set_cons_zero]
      refine wpAnyL_take (i := 12) (f0 := 17) (v := ?_) rfl (by decide +kernel) (by decide +kernel) (by decide +kernel) (by decide +kernel) (by decide +kernel) (fun _ _ _ h => h) (Or.inl ⟨by rfl, ?_⟩) hS4 ?_
      rotate_left
      · intro wS hS; go_simp; (try with_reducible rfl)
      simp only [Act.put, List.getElem_toArray, List.getElem_cons_succ, List.getElem_cons_zero, List.setIfInBounds_toArray, List.set_cons_succ, List.set_cons_zero]
      refine wpAnyL_take (i := 13) (f0 := 17) (v := ?_) rfl (by decide +kernel) (by decide +kernel) (by decide +kernel) (by decide +kernel) (by decide +kernel) (fun _ _ _ h => h) (Or.inl ⟨by rfl, ?_⟩) hS4 ?_
      rotate_left
      · intro wS hS; go_simp; (try with_reducible rfl)
      simp only [Act.put, List.getElem_toArray, List.getElem_cons_succ, List.getElem_cons_zero, List.setIfInBounds_toArray, List.set_cons_succ, List.set_cons_zero]
      refine wpAnyL_one (i := 14) (by decide +kernel) (by rfl) (fun K hK => ?_)
      rw [if_pos (by rfl)]
      have c9 := iCells0 hS4.inp
      have fz9 := frozen_of_row _ ib 0 _ _ hS4.inp
      go_simp
      have hrf : InAt ib (r2.extract 1 r2.size) (w4.setCell ⟨ib, 0, none⟩ (.string (r2.extract 1 r2.size))) := setCell_row1 hS4.inp (.string (r2.extract 1 r2.size))
      have hof := hO4.setCell (p := ⟨ib, 0, none⟩) (List.mem_singleton.2 rfl) (.string (r2.extract 1 r2.size))
      have hsf := hS4.next hne ((Off.refl [ib] w4).setCell (p := ⟨ib, 0, none⟩) (List.mem_singleton.2 rfl) (.string (r2.extract 1 r2.size))) hrf
      refine hK.out _ _ (Or.inl (by decide +kernel)) ?_
      clear hK K
      try simp only [Act.put, List.getElem_toArray, List.getElem_cons_succ, List.getElem_cons_zero, List.setIfInBounds_toArray, List.set_cons_succ, List.set_cons_zero]
      refine wpAnyL_done (by decide +kernel) ?_ _
      refine NoPanic.normal ?_
      rw [HX2.out] at hsf hof
      clear hrf c9 fz9 hS4 hO4
      rw [HX2.out]
      generalize w4.setCell ⟨ib, 0, none⟩ (.string (Dg.B r')) = w5 at *
      have hCs : C1.size = 1 := by rw [← hC1]; rfl
      have hLr : Dg.L (Dg.B r') = r' := Dg.L_B _
      have hrs : (Dg.B r').size = r'.length := by rw [← Dg.len_L, hLr]
      have hrel : ∀ X : ByteArray, Dg.L X = [Dg.unesc c] → (∃ (a' r : ByteArray) (q : List UInt8), r.size ≤ gk - 1 ∧ a'.size + r.size ≤ 1000000 ∧ Value.string (a ++ u ++ X) = .string a' ∧ ScAt sb ib line r w5 ∧ Off [ib] w w5 ∧ Dg.L line = q ++ Dg.L r ∧ Dg.L a' ++ (Dg.insideP (gk - 1) (Dg.L r)).1 = G1 ∧ (Dg.insideP (gk - 1) (Dg.L r)).2 = I2) := fun X hX => by
        have h1 := HG1.out; have h2 := HG2.out; have h3 := HQ2.out; have h4 := HR0.out; have h5 := HRG.out
        rw [HIN.out] at h1 h2
        have hXs : X.size = 1 := by rw [← Dg.len_L, hX]; rfl
        have h6 : r2.size = r'.length + 1 := by rw [← Dg.len_L, h4]; rfl
        refine ⟨a ++ u ++ X, Dg.B r', q ++ Dg.L u ++ [92] ++ [c], by rw [hrs]; exact h5, by rw [ByteArray.size_append, ByteArray.size_append, hrs]; omega, rfl, hsf, hof, ?_, ?_, ?_⟩
        · rw [h3, h4, hLr]; simp
        · rw [hLr, Dg.L_append, Dg.L_append, hX, ← h1]; simp
        · rw [hLr]; exact h2
      have HREL := hide hrel
      clear hrel
      by_cases hc : c = 110
      · have hcn : C1 = ⟨#[110]⟩ := by rw [← hC1, hc]; rfl
        have hcl : (C1.toList == [110]) = true := by rw [Lib.toList_data, hcn]; rfl
        clear hcn
        go_wp2
        go_roundg (gk - 1)
        case measure => have := HLT.out; rw [Dg.len_L] at this; omega
        case rel => exact HREL.out _ (by rw [hc]; rfl)
      · have hcl : (C1.toList == [110]) = false := by
          rw [Lib.toList_data]
          show (Dg.L C1 == [110]) = false
          rw [← hC1, Dg.L_B]
          exact beq_eq_false_iff_ne.2 (by simpa using hc)
        go_wp2
        go_roundg (gk - 1)
        case measure => have := HLT.out; rw [Dg.len_L] at this; omega
        case rel => exact HREL.out _ (by rw [← hC1, Dg.L_B]; unfold Dg.unesc; rw [if_neg hc])
    · have hne' : Dg.L r2 ≠ [] := by rw [hr0]; simp
      obtain ⟨d, hd, hcut⟩ := HSP.out hne'
      have hq2 : Dg.L line = ((q ++ Dg.L u) ++ [d]) ++ Dg.L r2 := by rw [HQ.out, hcut]; simp
      obtain ⟨KK, hsz2, hkl, hkd⟩ := get_cut hq2
      have hd92 : d ≠ 92 := fun e => by rw [hd, e] at h92; exact h92 rfl
      have hz := HZ.out
      have hk4 : wrap64 (wrap64 ((line.size : Int) - (r2.size : Int)) - 1) = (KK : Int) := by unfold wrap64; omega
      have hk0 : ¬ ((KK : Int) < 0) := by omega
      have he := emp_no hne'
      have hr2s : 1 ≤ r2.size := by
        have h9 := Dg.len_L r2
        rw [hr0] at h9
        simp only [List.length_cons] at h9
        omega
      have hr2i : (1 : Int) ≤ (r2.size : Int) := by omega
      have hdn : ((d.toNat : Int) != 92) = true := bne_iff_ne.2 (fun e => hd92 (by apply UInt8.toNat_inj.1; show d.toNat = 92; omega))
      obtain ⟨hx1, hx2⟩ := ext_one hr0
      have HX2 := hide hx2
      have hg1 := HG1.out; have hg2 := HG2.out
      rw [hin] at hg1 hg2
      have e1 : Dg.B G1 = a ++ u := by rw [← hg1]; apply Dg.L_inj; rw [Dg.L_B, Dg.L_append]
      have e2 : Dg.B I2.tail = Dg.B r' := by rw [← hg2]; rfl
      have HE1 := hide e1; have HE2 := hide e2
      clear hx1 hx2 hne' hcut HST HSP hin hq2 hsz2 hz hd hd92 hr0 h92 hg1 hg2 HG1 HG2 HI HQ HL1 e1 e2 HP
      go_wp2_with fail
      clear hc1 hc2 hi
      refine wp_region_noPanic ?_
      refine wp_region_L (ScAt sb ib line r2) 14 hmx ?_
      have hb4 := (Below.refl w3.heap.size w3).drew
      have hS4 := hS3.below hb4
      have hO4 := hO3.next hb4
      clear hS3 hO3 hb4
      generalize w3.drew = w4 at *
      refine wpAnyL_take (i := 0) (f0 := 17) (v := ?_) rfl (by decide +kernel) (by decide +kernel) (by decide +kernel) (by decide +kernel) (by decide +kernel) (fun _ _ _ h => h) (Or.inl ⟨by rfl, ?_⟩) hS4 ?_
      rotate_left
      · intro wS hS; go_simp; (try with_reducible rfl)
      simp only [Act.put, List.getElem_toArray, List.getElem_cons_zero, List.setIfInBounds_toArray, List.set_cons_succ, List.set_cons_zero]
      refine wpAnyL_take (i := 1) (f0 := 17) (v := ?_) rfl (by decide +kernel) (by decide +kernel) (by decide +kernel) (by decide +kernel) (by decide +kernel) (fun _ _ _ h => h) (Or.inl ⟨by rfl, ?_⟩) hS4 ?_
      rotate_left
      · intro wS hS; go_simp; (try with_reducible rfl)
      simp only [Act.put, List.getElem_toArray, List.getElem_cons_succ, List.getElem_cons_zero, List.setIfInBounds_toArray, List.set_cons_succ, List.set_cons_zero]
      refine wpAnyL_take (i := 2) (f0 := 17) (v := ?_) rfl (by decide +kernel) (by decide +kernel) (by decide +kernel) (by decide +kernel) (by decide +kernel) (fun _ _ _ h => h) (Or.inl ⟨by rfl, ?_⟩) hS4 ?_
      rotate_left
      · intro wS hS; go_simp; (try with_reducible rfl)
      simp only [Act.put, List.getElem_toArray, List.getElem_cons_succ, List.getElem_cons_zero, List.setIfInBounds_toArray, List.set_cons_succ, List.set_cons_zero]
      refine wpAnyL_take (i := 3) (f0 := 17) (v := ?_) rfl (by decide +kernel) (by decide +kernel) (by decide +kernel) (by decide +kernel) (by decide +kernel) (fun _ _ _ h => h) (Or.inl ⟨by rfl, ?_⟩) hS4 ?_
      rotate_left
      · intro wS hS; have c9 := (iCells2 hS.sc).1; go_simp; (try with_reducible rfl)
      simp only [Act.put, List.getElem_toArray, List.getElem_cons_succ, List.getElem_cons_zero, List.setIfInBounds_toArray, List.set_cons_succ, List.set_cons_zero]
      refine wpAnyL_take (i := 4) (f0 := 17) (v := ?_) rfl (by decide +kernel) (by decide +kernel) (by decide +kernel) (by decide +kernel) (by decide +kernel) (fun _ _ _ h => h) (Or.inl ⟨by rfl, ?_⟩) hS4 ?_
      rotate_left
      · intro wS hS; go_simp; (try with_reducible rfl)
      simp only [Act.put, List.getElem_toArray, List.getElem_cons_succ, List.getElem_cons_zero, List.setIfInBounds_toArray, List.set_cons_succ, List.set_cons_zero]
      refine wpAnyL_take (i := 5) (f0 := 17) (v := ?_) rfl (by decide +kernel) (by decide +kernel) (by decide +kernel) (by decide +kernel) (by decide +kernel) (fun _ _ _ h => h) (Or.inl ⟨by rfl, ?_⟩) hS4 ?_
      rotate_left
      · intro wS hS; go_simp; (try with_reducible rfl)
      simp only [Act.put, List.getElem_toArray, List.getElem_cons_succ, List.getElem_cons_zero, List.setIfInBounds_toArray, List.set_cons_succ, List.set_cons_zero]
      refine wpAnyL_take (i := 6) (f0 := 17) (v := ?_) rfl (by decide +kernel) (by decide +kernel) (by decide +kernel) (by decide +kernel) (by decide +kernel) (fun _ _ _ h => h) (Or.inl ⟨by rfl, ?_⟩) hS4 ?_
      rotate_left
      · intro wS hS; go_simp; (try with_reducible rfl)
      simp only [Act.put, List.getElem_toArray, List.getElem_cons_succ, List.getElem_cons_zero, List.setIfInBounds_toArray, List.set_cons_succ, List.set_cons_zero]
      refine wpAnyL_take (i := 7) (f0 := 17) (v := ?_) rfl (by decide +kernel) (by decide +kernel) (by decide +kernel) (by decide +kernel) (by decide +kernel) (fun _ _ _ h => h) (Or.inl ⟨by rfl, ?_⟩) hS4 ?_
      rotate_left
      · intro wS hS; have c9 := (iCells2 hS.sc).1; go_simp; (try with_reducible rfl)
      simp only [Act.put, List.getElem_toArray, List.getElem_cons_succ, List.getElem_cons_zero, List.setIfInBounds_toArray, List.set_cons_succ, List.set_cons_zero]
      refine wpAnyL_take (i := 8) (f0 := 17) (v := ?_) rfl (by decide +kernel) (by decide +kernel) (by decide +kernel) (by decide +kernel) (by decide +kernel) (fun _ _ _ h => h) (Or.inl ⟨by rfl, ?_⟩) hS4 ?_
      rotate_left
      · intro wS hS; go_simp; (try with_reducible rfl)
      simp only [Act.put, List.getElem_toArray, List.getElem_cons_succ, List.getElem_cons_zero, List.setIfInBounds_toArray, List.set_cons_succ, List.set_cons_zero]
      refine wpAnyL_take (i := 9) (f0 := 17) (v := ?_) rfl (by decide +kernel) (by decide +kernel) (by decide +kernel) (by decide +kernel) (by decide +kernel) (fun _ _ _ h => h) (Or.inl ⟨by rfl, ?_⟩) hS4 ?_
      rotate_left
      · intro wS hS; go_simp; (try with_reducible rfl)
      simp only [Act.put, List.getElem_toArray, List.getElem_cons_succ, List.getElem_cons_zero, List.setIfInBounds_toArray, List.set_cons_succ, List.set_cons_zero]
      refine wpAnyL_take (i := 10) (f0 := 17) (v := ?_) rfl (by decide +kernel) (by decide +kernel) (by decide +kernel) (by decide +kernel) (by decide +kernel) (fun _ _ _ h => h) (Or.inl ⟨by rfl, ?_⟩) hS4 ?_
      rotate_left
      · intro wS hS; have c9 := iCells0 hS.inp; go_simp; (try with_reducible rfl)
      simp only [Act.put, List.getElem_toArray, List.getElem_cons_succ, List.getElem_cons_zero, List.setIfInBounds_toArray, List.set_cons_succ, List.set_cons_zero]
      refine wpAnyL_take (i := 11) (f0 := 17) (v := ?_) rfl (by decide +kernel) (by decide +kernel) (by decide +kernel) (by decide +kernel) (by decide +kernel) (fun _ _ _ h => h) (Or.inl ⟨by rfl, ?_⟩) hS4 ?_
      rotate_left
      · intro wS hS; go_simp; (try with_reducible rfl)
      simp only [Act.put, List.getElem_toArray, List.getElem_cons_succ, List.getElem_cons_zero, List.setIfInBounds_toArray, List.set_cons_succ, List.set_cons_zero]
      refine wpAnyL_take (i := 12) (f0 := 17) (v := ?_) rfl (by decide +kernel) (by decide +kernel) (by decide +kernel) (by decide +kernel) (by decide +kernel) (fun _ _ _ h => h) (Or.inl ⟨by rfl, ?_⟩) hS4 ?_
      rotate_left
      · intro wS hS; go_simp; (try with_reducible rfl)
      simp only [Act.put, List.getElem_toArray, List.getElem_cons_succ, List.getElem_cons_zero, List.setIfInBounds_toArray, List.set_cons_succ, List.set_cons_zero]
      refine wpAnyL_take (i := 13) (f0 := 17) (v := ?_) rfl (by decide +kernel) (by decide +kernel) (by decide +kernel) (by decide +kernel) (by decide +kernel) (fun _ _ _ h => h) (Or.inl ⟨by rfl, ?_⟩) hS4 ?_
      rotate_left
      · intro wS hS; go_simp; (try with_reducible rfl)
      simp only [Act.put, List.getElem_toArray, List.getElem_cons_succ, List.getElem_cons_zero, List.setIfInBounds_toArray, List.set_cons_succ, List.set_cons_zero]
      refine wpAnyL_one (i := 14) (by decide +kernel) (by rfl) (fun K hK => ?_)
      rw [if_pos (by rfl)]
      have c9 := iCells0 hS4.inp
      have fz9 := frozen_of_row _ ib 0 _ _ hS4.inp
      go_simp
      have hrf : InAt ib (r2.extract 1 r2.size) (w4.setCell ⟨ib, 0, none⟩ (.string (r2.extract 1 r2.size))) := setCell_row1 hS4.inp (.string (r2.extract 1 r2.size))
      have hof := hO4.setCell (p := ⟨ib, 0, none⟩) (List.mem_singleton.2 rfl) (.string (r2.extract 1 r2.size))
      have hsf := hS4.next hne ((Off.refl [ib] w4).setCell (p := ⟨ib, 0, none⟩) (List.mem_singleton.2 rfl) (.string (r2.extract 1 r2.size))) hrf
      refine hK.out _ _ (Or.inl (by decide +kernel)) ?_
      clear hK K
      try simp only [Act.put, List.getElem_toArray, List.getElem_cons_succ, List.getElem_cons_zero, List.setIfInBounds_toArray, List.set_cons_succ, List.set_cons_zero]
      refine wpAnyL_done (by decide +kernel) ?_ _
      refine NoPanic.normal ?_
      rw [HX2.out] at hsf hof
      clear hrf c9 fz9 hS4 hO4
      rw [HX2.out]
      generalize w4.setCell ⟨ib, 0, none⟩ (.string (Dg.B r')) = w5 at *
      go_wp2
      go_ret
      rw [HE1.out, HE2.out]
      exact ⟨rfl, hsf, hof⟩
end Go.Proofs.YtpldhempbdionaaGreatDoor
/- The text of a valid code is parsed as the code, in plain Lean. No program in sight. -/
namespace Go.Proofs.YtpldhempbdionaaGreatDoor.Dg
open Go
def dashL (w : List UInt8) : ByteArray := if w = [45] then nil8 else B w
/-- A line of a code's text, read. -/
def parseLineP (line : List UInt8) : It :=
  let w := untilP [32] line
  let i := untilP [32] w.2
  let p := untilP [32] i.2
  let n := untilP [32, 10] p.2
  if w.1 = wDiv then ⟨1, B i.1, dashL p.1, dashL n.1, nil8, nil8, false⟩
  else ⟨2, B i.1, dashL p.1, dashL n.1, B (quoteP n.2).1, B (quoteP (quoteP n.2).2).1, decide (w.1 = wRep)⟩
/-- The lines of a text, each with its line feed. -/
def linesP : List UInt8 → List (List UInt8)
  | [] => []
  | c :: r => if c = 10 then [10] :: linesP r else match linesP r with | [] => [[c]] | l :: ls => (c :: l) :: ls
theorem linesP_at (w r : List UInt8) (hw : ∀ d ∈ w, d ≠ 10) : linesP (w ++ 10 :: r) = (w ++ [10]) :: linesP r := by
  induction w with
  | nil => rw [List.nil_append, linesP, if_pos rfl]; rfl
  | cons d w ih => rw [List.cons_append, linesP, if_neg (hw d (List.mem_cons_self ..)), ih (fun e he => hw e (List.mem_cons_of_mem _ he))]; rfl
theorem letter_ok (c : UInt8) (h : letterB c = true) : c ≠ 32 ∧ c ≠ 10 ∧ c ≠ 45 := by
  refine ⟨fun e => ?_, fun e => ?_, fun e => ?_⟩ <;> (subst e; exact absurd h (by decide))
theorem digit_ok (c : UInt8) (h : digitB c = true) : c ≠ 32 ∧ c ≠ 10 ∧ c ≠ 45 := by
  refine ⟨fun e => ?_, fun e => ?_, fun e => ?_⟩ <;> (subst e; exact absurd h (by decide))
theorem num_ok (c : UInt8) (h : numC c = true) : c ≠ 32 ∧ c ≠ 10 ∧ c ≠ 45 := by
  refine ⟨fun e => ?_, fun e => ?_, fun e => ?_⟩ <;> (subst e; exact absurd h (by decide))
theorem name_ok {s : ByteArray} (h : isNameB s = true) : (∀ c ∈ L s, c ≠ 32 ∧ c ≠ 10 ∧ c ≠ 45) ∧ L s ≠ [] := by
  unfold isNameB at h
  rw [Bool.and_eq_true] at h
  have h1 := h.1
  cases hl : L s with
  | nil => rw [hl] at h1; cases h1
  | cons a r =>
    rw [hl] at h1
    unfold nameL at h1
    rw [Bool.and_eq_true, List.all_eq_true] at h1
    refine ⟨fun c hc => ?_, by simp⟩
    rcases List.mem_cons.1 hc with rfl | hc
    · exact letter_ok _ h1.1
    · have := h1.2 c hc
      rw [Bool.or_eq_true] at this
      rcases this with h2 | h2
      · exact letter_ok _ h2
      · exact digit_ok _ h2
theorem numb_ok {s : ByteArray} (h : isNumB s = true) : ∀ c ∈ L s, c ≠ 32 ∧ c ≠ 10 ∧ c ≠ 45 := fun c hc => by
  unfold isNumB at h
  rw [Bool.and_eq_true, List.all_eq_true] at h
  exact num_ok c (h.2 c hc)
theorem or_ok {s : ByteArray} (h : ∀ c ∈ L s, c ≠ 32 ∧ c ≠ 10 ∧ c ≠ 45) : (∀ c ∈ orL (L s), c ≠ 32 ∧ c ≠ 10) ∧ dashL (orL (L s)) = s := by
  unfold orL dashL
  by_cases hn : L s = []
  · rw [if_pos hn, if_pos rfl]
    refine ⟨fun c hc => by rw [List.mem_singleton.1 hc]; decide, ?_⟩
    have : B (L s) = B [] := by rw [hn]
    rw [B_L] at this
    rw [this]; rfl
  · rw [if_neg hn]
    refine ⟨fun c hc => ⟨(h c hc).1, (h c hc).2.1⟩, ?_⟩
    rw [if_neg (fun e => by
      have := (h 45 (by rw [e]; exact List.mem_cons_self ..)).2.2
      exact this rfl), B_L]
theorem esc_no10 (l : List UInt8) : ∀ c ∈ escL l, c ≠ 10 := fun c hc => by
  unfold escL at hc
  obtain ⟨d, _, hd⟩ := List.mem_flatMap.1 hc
  unfold escC at hd
  split at hd
  · simp at hd; rcases hd with rfl | rfl <;> decide
  · split at hd
    · simp at hd; rcases hd with rfl | rfl <;> decide
    · split at hd
      · simp at hd; rcases hd with rfl | rfl <;> decide
      · rename_i h3
        rw [List.mem_singleton.1 hd]; exact h3
theorem quote_no10 (l : List UInt8) : ∀ c ∈ quoteL l, c ≠ 10 := fun c hc => by
  unfold quoteL at hc
  rcases List.mem_cons.1 hc with rfl | hc
  · decide
  · rcases List.mem_append.1 hc with h | h
    · exact esc_no10 l c h
    · rw [List.mem_singleton.1 h]; decide
theorem joinW_no10 : ∀ (ws : List (List UInt8)), (∀ w ∈ ws, ∀ c ∈ w, c ≠ 10) → ∀ c ∈ joinW ws, c ≠ 10
  | [], _, c, hc => by cases hc
  | [a], h, c, hc => h a (List.mem_cons_self ..) c hc
  | a :: b :: r, h, c, hc => by
    rw [joinW] at hc
    rcases List.mem_append.1 hc with h1 | h1
    · exact h a (List.mem_cons_self ..) c h1
    · rcases List.mem_cons.1 h1 with rfl | h1
      · decide
      · exact joinW_no10 (b :: r) (fun w hw => h w (List.mem_cons_of_mem _ hw)) c h1
/-- What an item of a valid code is like. -/
structure ItOk (x : It) : Prop where
  pr : properI x = true
  pa : x.parent = nil8 ∨ isNameB x.parent = true
theorem proper_id {x : It} (h : properI x = true) : isNameB x.id = true ∧ isNumB x.number = true := by
  unfold properI at h
  split at h
  · simp only [Bool.and_eq_true] at h; exact ⟨h.2.1, h.1⟩
  · split at h
    · simp only [Bool.and_eq_true] at h; exact ⟨h.2.1, h.1⟩
    · cases h
theorem nil8_L : L nil8 = [] := rfl
theorem parent_ok {x : It} (h : ItOk x) : ∀ c ∈ L x.parent, c ≠ 32 ∧ c ≠ 10 ∧ c ≠ 45 := fun c hc => by
  rcases h.pa with e | e
  · rw [e, nil8_L] at hc; cases hc
  · exact (name_ok e).1 c hc
theorem words_no10 {x : It} (h : ItOk x) : ∀ w ∈ wordsI x, ∀ c ∈ w, c ≠ 10 := fun w hw c hc => by
  obtain ⟨h1, h2⟩ := proper_id h.pr
  have i1 := fun c hc => ((name_ok h1).1 c hc).2.1
  have i2 := fun c hc => ((or_ok (parent_ok h)).1 c hc).2
  have i3 := fun c hc => ((or_ok (numb_ok h2)).1 c hc).2
  unfold wordsI at hw
  split at hw
  · simp only [List.mem_cons, List.not_mem_nil, or_false] at hw
    rcases hw with rfl | rfl | rfl | rfl
    · exact fun e => by subst e; exact absurd hc (by decide)
    · exact i1 c hc
    · exact i2 c hc
    · exact i3 c hc
  · simp only [List.mem_cons, List.not_mem_nil, or_false] at hw
    rcases hw with rfl | rfl | rfl | rfl | rfl | rfl
    · intro e; subst e; split at hc <;> exact absurd hc (by decide)
    · exact i1 c hc
    · exact i2 c hc
    · exact i3 c hc
    · exact quote_no10 _ c hc
    · exact quote_no10 _ c hc
theorem lines_text : ∀ (l : List It), (∀ x ∈ l, ItOk x) → linesP (textL l) = l.map lineL
  | [], _ => rfl
  | x :: l, h => by
    have e : textL (x :: l) = joinW (wordsI x) ++ 10 :: textL l := by unfold textL lineL; rw [List.flatMap_cons, List.append_assoc]; rfl
    rw [e, linesP_at _ _ (joinW_no10 _ (words_no10 (h x (List.mem_cons_self ..)))), lines_text l (fun y hy => h y (List.mem_cons_of_mem _ hy))]
    rfl
theorem no32 {w : List UInt8} (h : ∀ c ∈ w, c ≠ 32 ∧ c ≠ 10) : (∀ c ∈ w, [32].contains c = false) ∧ ∀ c ∈ w, [32, 10].contains c = false :=
  ⟨fun c hc => by simp [(h c hc).1], fun c hc => by simp [(h c hc).1, (h c hc).2]⟩
theorem parse_line {x : It} (h : ItOk x) : parseLineP (lineL x) = x := by
  obtain ⟨h1, h2⟩ := proper_id h.pr
  obtain ⟨p1, p2⟩ := or_ok (parent_ok h)
  obtain ⟨n1, n2⟩ := or_ok (numb_ok h2)
  have i1 : ∀ c ∈ L x.id, c ≠ 32 ∧ c ≠ 10 := fun c hc => ⟨((name_ok h1).1 c hc).1, ((name_ok h1).1 c hc).2.1⟩
  have w1 : ∀ c ∈ wDiv, c ≠ 32 ∧ c ≠ 10 := by decide
  have w2 : ∀ c ∈ wArt, c ≠ 32 ∧ c ≠ 10 := by decide
  have w3 : ∀ c ∈ wRep, c ≠ 32 ∧ c ≠ 10 := by decide
  rcases proper_kind h.pr with ⟨k1, k2, k3, k4⟩ | ⟨k1, _, _⟩
  · have hl : lineL x = wDiv ++ 32 :: (L x.id ++ 32 :: (orL (L x.parent) ++ 32 :: (orL (L x.number) ++ 10 :: []))) := by
      unfold lineL wordsI
      rw [if_pos k1]
      simp [joinW]
    unfold parseLineP
    simp only
    rw [hl, untilP_at _ _ _ _ (no32 w1).1 (by decide)]
    simp only
    rw [untilP_at _ _ _ _ (no32 i1).1 (by decide)]
    simp only
    rw [untilP_at _ _ _ _ (no32 p1).1 (by decide)]
    simp only
    rw [untilP_at _ _ _ _ (no32 n1).2 (by decide)]
    simp only
    rw [if_pos trivial, p2, n2, B_L]
    obtain ⟨a1, a2, a3, a4, a5, a6, a7⟩ := x
    simp only at k1 k2 k3 k4
    subst k1 k2 k3 k4
    rfl
  · have k0 : x.kind ≠ 1 := by rw [k1]; decide
    have hw : ∀ c ∈ (if x.gone then wRep else wArt), c ≠ 32 ∧ c ≠ 10 := by split <;> assumption
    have hd : (if x.gone then wRep else wArt) ≠ wDiv := by split <;> decide
    have hg : decide ((if x.gone then wRep else wArt) = wRep) = x.gone := by cases x.gone <;> decide
    have hl : lineL x = (if x.gone then wRep else wArt) ++ 32 :: (L x.id ++ 32 :: (orL (L x.parent) ++ 32 :: (orL (L x.number) ++ 32 :: (quoteL (L x.north) ++ 32 :: (quoteL (L x.south) ++ 10 :: []))))) := by
      unfold lineL wordsI
      rw [if_neg k0]
      simp [joinW]
    unfold parseLineP
    simp only
    rw [hl, untilP_at _ _ _ _ (no32 hw).1 (by decide)]
    simp only
    rw [untilP_at _ _ _ _ (no32 i1).1 (by decide)]
    simp only
    rw [untilP_at _ _ _ _ (no32 p1).1 (by decide)]
    simp only
    rw [untilP_at _ _ _ _ (no32 n1).2 (by decide)]
    simp only
    rw [if_neg hd, p2, n2, B_L, quoteP_at]
    simp only
    rw [quoteP_at, B_L, B_L, hg]
    obtain ⟨a1, a2, a3, a4, a5, a6, a7⟩ := x
    simp only at k1
    subst k1
    rfl
/-- What a text is parsed to, before it is compared with the text of that. -/
def parseP (t : List UInt8) : List It := (linesP t).map parseLineP
theorem valid_itok {l : List It} (h : validC l = true) : ∀ x ∈ l, ItOk x := fun x hx => by
  refine ⟨valid_proper h x hx, ?_⟩
  obtain ⟨s, hw, _⟩ := valid_walk h
  obtain ⟨k, hk, rfl⟩ := List.mem_iff_getElem.1 hx
  obtain ⟨o, _, h1, _, h2, _⟩ := visit_at (Nat.le_refl _) hw hk
  by_cases hp : l[k].parent = nil8
  · exact Or.inl hp
  · obtain ⟨y, hy, e⟩ := List.mem_map.1 (h1 _ (h2 hp))
    exact Or.inr (by rw [← e]; exact (proper_id (valid_proper h y (List.mem_of_mem_take hy))).1)
theorem parse_text {l : List It} (h : validC l = true) : parseP (textL l) = l := by
  unfold parseP
  rw [lines_text l (valid_itok h), List.map_map]
  have : ∀ x ∈ l, (parseLineP ∘ lineL) x = id x := fun x hx => parse_line (valid_itok h x hx)
  rw [List.map_congr_left this, List.map_id]
/-- Different valid codes have different texts. -/
theorem text_inj {l m : List It} (hl : validC l = true) (hm : validC m = true) (h : textL l = textL m) : l = m := by
  rw [← parse_text hl, ← parse_text hm, h]
end Go.Proofs.YtpldhempbdionaaGreatDoor.Dg
/- The lines of a text, by the pieces that strings.SplitAfter answers. No program in sight. -/
namespace Go.Proofs.YtpldhempbdionaaGreatDoor
open Go
theorem index_at10 : ∀ (w r : List UInt8), (∀ d ∈ w, d ≠ 10) → Lib.index (w ++ 10 :: r) [10] = (w.length : Int)
  | [], r, _ => by
    rw [List.nil_append, Lib.index, if_pos (by simp)]; rfl
  | d :: w, r, h => by
    have hd : d ≠ 10 := h d (List.mem_cons_self ..)
    have ih := index_at10 w r (fun e he => h e (List.mem_cons_of_mem _ he))
    rw [List.cons_append, Lib.index, if_neg (by simp [List.isPrefixOf, hd.symm]), ih, if_neg (by
      intro e
      have := beq_iff_eq.1 e
      omega), List.length_cons]
    rfl
theorem split_at10 : ∀ l : List UInt8, (∀ d ∈ l, d ≠ 10) ∨ ∃ w r, l = w ++ 10 :: r ∧ (∀ d ∈ w, d ≠ 10)
  | [] => Or.inl (by simp)
  | c :: l => by
    by_cases hc : c = 10
    · exact Or.inr ⟨[], l, by rw [hc]; rfl, by simp⟩
    · rcases split_at10 l with h | ⟨w, r, h1, h2⟩
      · exact Or.inl (by simpa [hc] using h)
      · exact Or.inr ⟨c :: w, r, by rw [h1]; rfl, by simpa [hc] using h2⟩
theorem lines_last : ∀ l : List UInt8, (∀ d ∈ l, d ≠ 10) → Dg.linesP l = if l = [] then [] else [l]
  | [], _ => rfl
  | c :: l, h => by
    have ih := lines_last l (fun d hd => h d (List.mem_cons_of_mem _ hd))
    rw [Dg.linesP, if_neg (h c (List.mem_cons_self ..)), ih]
    by_cases hl : l = []
    · subst hl; rfl
    · rw [if_neg hl, if_neg (by simp)]
theorem splitK_lines : ∀ (k : Nat) (l : List UInt8), l.count 10 = k → (Lib.splitK [10] 1 k l).filter (fun x => !x.isEmpty) = Dg.linesP l
  | 0, l, h => by
    have hn : ∀ d ∈ l, d ≠ 10 := fun d hd e => by
      subst e
      have := List.count_pos_iff.2 hd
      omega
    rw [lines_last l hn]
    show List.filter _ [l] = _
    cases l with
    | nil => rfl
    | cons a l => rfl
  | k + 1, l, h => by
    rcases split_at10 l with hn | ⟨w, r, rfl, hw⟩
    · have : l.count 10 = 0 := List.count_eq_zero.2 fun hm => hn 10 hm rfl
      omega
    · have hc : r.count 10 = k := by
        rw [List.count_append, List.count_cons_self] at h
        have : w.count 10 = 0 := List.count_eq_zero.2 fun hm => hw 10 hm rfl
        omega
      rw [Dg.linesP_at w r hw, ← splitK_lines k r hc, Lib.splitK, index_at10 w r hw, if_neg (by
        intro e
        have := beq_iff_eq.1 e
        omega)]
      have e1 : (w ++ 10 :: r).take (((w.length : Int)).toNat + 1) = w ++ [10] := by
        rw [Int.toNat_natCast, show w ++ 10 :: r = (w ++ [10]) ++ r by simp, List.take_left' (by simp)]
      have e2 : (w ++ 10 :: r).drop (((w.length : Int)).toNat + ([10] : List UInt8).length) = r := by
        rw [Int.toNat_natCast, show w ++ 10 :: r = (w ++ [10]) ++ r by simp, List.drop_left' (by simp)]
      rw [e1, e2, List.filter_cons_of_pos (by simp)]
theorem countB_ten (t : ByteArray) : Lib.countB t ⟨#[10]⟩ = (Dg.L t).count 10 := by
  show Lib.count t.data.toList [10] = _
  rw [Lib.count_one]
  rfl
/-- The pieces that are not empty are the lines. -/
theorem split_lines (t : ByteArray) : ((Lib.splitB ⟨#[10]⟩ 1 (Lib.countB t ⟨#[10]⟩) t).map Dg.L).filter (fun x => !x.isEmpty) = Dg.linesP (Dg.L t) := by
  have h := Lib.splitB_data ⟨#[10]⟩ 1 (Lib.countB t ⟨#[10]⟩) t
  have h2 : (Lib.splitB ⟨#[10]⟩ 1 (Lib.countB t ⟨#[10]⟩) t).map Dg.L = Lib.splitK [10] 1 (Lib.countB t ⟨#[10]⟩) (Dg.L t) := h
  rw [h2]
  exact splitK_lines _ _ (countB_ten t).symm
/-- What the lines that are not empty make, up to a piece. -/
def itemsTo (P : List ByteArray) (k : Nat) : List Dg.It := (((P.take k).map Dg.L).filter (fun x => !x.isEmpty)).map Dg.parseLineP
theorem itemsTo_succ (P : List ByteArray) (k : Nat) (h : k < P.length) : itemsTo P (k + 1) = itemsTo P k ++ (if P[k].size = 0 then [] else [Dg.parseLineP (Dg.L P[k])]) := by
  unfold itemsTo
  rw [List.take_succ_eq_append_getElem h, List.map_append, List.filter_append, List.map_append]
  congr 1
  have hs : (Dg.L P[k]).length = P[k].size := rfl
  by_cases h0 : P[k].size = 0
  · rw [if_pos h0]
    have : Dg.L P[k] = [] := List.length_eq_zero_iff.1 (by rw [hs]; exact h0)
    rw [List.map_cons, List.map_nil, this]
    rfl
  · rw [if_neg h0]
    cases hl : Dg.L P[k] with
    | nil => rw [hl] at hs; simp at hs; omega
    | cons a r => rw [List.map_cons, List.map_nil, hl]; rfl
theorem itemsTo_all (t : ByteArray) (P : List ByteArray) (hP : P = Lib.splitB ⟨#[10]⟩ 1 (Lib.countB t ⟨#[10]⟩) t) : itemsTo P P.length = Dg.parseP (Dg.L t) := by
  unfold itemsTo Dg.parseP
  rw [List.take_length, hP, split_lines]
end Go.Proofs.YtpldhempbdionaaGreatDoor
/- The reference's scanner of codes, in plain Lean: the text of a valid code is read back. No program in sight. -/
namespace Go.Proofs.YtpldhempbdionaaGreatDoor.Dg
open Go
end Go.Proofs.YtpldhempbdionaaGreatDoor.Dg
/- What both parsers answer, in plain Lean; the laws CodeTexts and CodeMatchesReference. No program in sight. -/
namespace Go.Proofs.YtpldhempbdionaaGreatDoor.Dg
open Go
def goodT (t : List UInt8) (l : List It) : Prop := validC l = true ∧ textL l = t
instance (t : List UInt8) (l : List It) : Decidable (goodT t l) := by unfold goodT; infer_instance
/-- What the program's Parse answers. -/
def parseO (t : ByteArray) : List It × Int := if 1000000 < t.size then ([], 2) else if goodT (L t) (parseP (L t)) then (parseP (L t), 0) else ([], 5)
theorem good_len {l : List It} (h : validC l = true) : l.length ≤ 2000 := by
  unfold validC at h
  simp only [Bool.and_eq_true, decide_eq_true_eq] at h
  omega
/-- A valid code is parsed from its text. -/
theorem texts_back {l : List It} (hv : validC l = true) (hz : (textL l).length ≤ 1000000) : parseO (B (textL l)) = (l, 0) := by
  have hL : L (B (textL l)) = textL l := L_B _
  have hs : (B (textL l)).size = (textL l).length := by rw [← hL]; rfl
  unfold parseO
  rw [if_neg (by rw [hs]; omega), hL, parse_text hv, if_pos ⟨hv, rfl⟩]
/-- A text that is accepted is that of its code. -/
theorem texts_ok {t : ByteArray} {l : List It} {e : Int} (h : parseO t = (l, e)) : (e = 0 ∧ validC l = true ∧ textC l = (t, 0)) ∨ (e ≠ 0 ∧ l = []) := by
  unfold parseO at h
  split at h
  · injection h with h1 h2
    exact Or.inr ⟨by rw [← h2]; decide, h1.symm⟩
  · rename_i hz
    split at h
    · rename_i hg
      injection h with h1 h2
      subst h1 h2
      refine Or.inl ⟨rfl, hg.1, ?_⟩
      unfold textC
      rw [if_pos hg.1, hg.2, if_neg (by have : (L t).length = t.size := rfl; omega), B_L]
    · injection h with h1 h2
      exact Or.inr ⟨by rw [← h2]; decide, h1.symm⟩
theorem texts_err {t : ByteArray} (hz : t.size ≤ 1000000) {l : List It} {e : Int} (h : parseO t = (l, e)) : e = 0 ∨ (e = 5 ∧ l = []) := by
  unfold parseO at h
  rw [if_neg (by omega)] at h
  split at h
  · injection h with _ h2; exact Or.inl h2.symm
  · injection h with h1 h2; exact Or.inr ⟨h2.symm, h1.symm⟩
end Go.Proofs.YtpldhempbdionaaGreatDoor.Dg
/- Few of the reference, few of the laws. No conditions but those that each theorem states. -/
namespace Go.Proofs.YtpldhempbdionaaGreatDoor
open Go Go.RowKit Go.Sort Go.Maps
/-- An item whose strings have at most 500 bytes. -/
def smallI (x : Dg.It) : Bool := decide (x.id.size ≤ 500) && decide (x.parent.size ≤ 500) && decide (x.number.size ≤ 500) && decide (x.north.size ≤ 500) && decide (x.south.size ≤ 500)
def fewC (l : List Dg.It) (m : Nat) : Bool := decide (l.length ≤ m) && (l.take m).all smallI
theorem smallI_iff (x : Dg.It) : smallI x = true ↔ x.id.size ≤ 500 ∧ x.parent.size ≤ 500 ∧ x.number.size ≤ 500 ∧ x.north.size ≤ 500 ∧ x.south.size ≤ 500 := by
  unfold smallI
  simp only [Bool.and_eq_true, decide_eq_true_eq, and_assoc]
theorem fewC_spec {l : List Dg.It} {m : Nat} (h : fewC l m = true) : l.length ≤ m ∧ ∀ x ∈ l, smallI x = true := by
  unfold fewC at h
  rw [Bool.and_eq_true, decide_eq_true_eq] at h
  refine ⟨h.1, fun x hx => ?_⟩
  rw [List.take_of_length_le h.1, List.all_eq_true] at h
  exact h.2 x hx
theorem small_fields {x : Dg.It} (h : smallI x = true) : ∀ s ∈ Dg.fieldsI x, s.size ≤ 500 := fun s hs => by
  obtain ⟨h1, h2, h3, h4, h5⟩ := (smallI_iff x).1 h
  unfold Dg.fieldsI at hs
  simp only [List.mem_cons, List.not_mem_nil, or_false] at hs
  rcases hs with rfl | rfl | rfl | rfl | rfl | rfl
  · unfold Dg.kindW; split <;> (try split) <;> decide
  · exact h1
  · exact h2
  · exact h3
  · exact h4
  · exact h5
theorem fewC_no {l : List Dg.It} {m k : Nat} (hk : k < l.length) (hm : k < m) (h : smallI l[k] = false) : fewC l m = false := by
  unfold fewC
  have : (l.take m).all smallI = false := by
    rw [List.all_eq_false]
    exact ⟨l[k], List.mem_take_iff_getElem.2 ⟨k, by omega, rfl⟩, by rw [h]; exact Bool.false_ne_true⟩
  rw [this, Bool.and_false]
theorem fewC_yes {l : List Dg.It} {m : Nat} (hm : l.length ≤ m) (h : ∀ x ∈ l, smallI x = true) : fewC l m = true := by
  unfold fewC
  rw [decide_eq_true hm, Bool.true_and, List.take_of_length_le hm, List.all_eq_true]
  exact h
theorem fewC_many {l : List Dg.It} {m : Nat} (hm : m < l.length) : fewC l m = false := by
  unfold fewC
  rw [decide_eq_false (by omega), Bool.false_and]
set_option maxRecDepth 100000 in
set_option maxHeartbeats 8000000 in
theorem rfew_of (l : List Dg.It) (A : Option Addr) (n c m : Nat) (hl : l.length = n) (hn : n ≤ 9223372036854775807) (hm : m ≤ 1000) (w : World) (hI : Its w w.heap.size A l) (R : Bool) (hR : fewC l m = R) :
    Calls Tryz.prog 34 #[.agg #[.slice A n c], .int .i64 (m : Int)] w fun e w' => e = .returned (.bool R) ∧ Below w.heap.size w w' := by
  have hx1 := Below.news (Below.refl w.heap.size w) (.cells #[.slice A n c] 24)
  have hrow := heap_alloc_new w (.cells #[.slice A n c] 24)
  have HL := hide hl; have HR := hide hR; have HI := hide hI
  clear hl hR hI
  go_enter Tryz.func34, Tryz.ntmps34
  go_wp2
  go_loopw [5] (fun iv wr => ∃ k : Nat, k ≤ n ∧ k ≤ m ∧ iv = .int .i64 (k : Int) ∧ Below w.heap.size w wr ∧ wr.heap[w.heap.size]? = some (.cells #[.slice A n c] 24 (0, 0)) ∧ Hid (∀ x ∈ l.take k, smallI x = true)) (fun iv _ => n - (intOf iv).toNat)
  case atStart => exact ⟨0, by omega, by omega, rfl, hx1, hrow, fun x hx => by simp at hx⟩
  case round =>
    obtain ⟨k, hk, hkm, rfl, hb, hr, hall⟩ := hrel
    clear hrow hx1
    have hc := iCells0 hr
    by_cases hlt : k < n
    · have hkn : (k : Int) < (n : Int) := by omega
      by_cases hlm : k < m
      · have hkm2 : (k : Int) < (m : Int) := by omega
        have hk0 : (0 : Int) ≤ (k : Int) := by omega
        have hkl : k < l.length := by rw [HL.out]; exact hlt
        have hIr := HI.out.below hb
        obtain ⟨b, off, rfl⟩ := hIr.some hkl
        obtain ⟨x, hx⟩ : ∃ x, l[k] = x := ⟨_, rfl⟩
        obtain ⟨hbl, p0, p1, p2, p3, p4, p5, p6⟩ := hIr.cells hkl x hx
        have HX := hide hx
        clear hx hIr
        have hx2 := Below.news (Below.refl wr.heap.size wr) (.cells #[.int .i64 x.kind, .string x.id, .string x.parent, .string x.number, .string x.north, .string x.south, .bool x.gone] 31)
        have hrx := heap_alloc_new wr (.cells #[.int .i64 x.kind, .string x.id, .string x.parent, .string x.number, .string x.north, .string x.south, .bool x.gone] 31)
        have hr2 := iNext hr hx2
        have hb2 := bnext hb hx2
        go_upto_region 5 with (fail)
        generalize wr.alloc (.cells #[.int .i64 x.kind, .string x.id, .string x.parent, .string x.number, .string x.north, .string x.south, .bool x.gone] 31) = w2 at *
        obtain ⟨c0, c1, c2, c3, c4, c5, c6⟩ := iCells hrx
        clear p0 p1 p2 p3 p4 p5 p6 hc hr hx2 hb
        by_cases s0 : (500 : Int) < (x.id.size : Int)
        · skip
          have E9 := hide (show false = R by rw [← HR.out]; exact (fewC_no hkl hlm (by rw [HX.out]; cases hs : smallI x with | false => rfl | true => exact absurd ((smallI_iff x).1 hs) (by omega))).symm)
          go_wp2
          go_ret
          exact ⟨ret_bool E9.out, hb2⟩
        by_cases s1 : (500 : Int) < (x.parent.size : Int)
        · skip
          have E9 := hide (show false = R by rw [← HR.out]; exact (fewC_no hkl hlm (by rw [HX.out]; cases hs : smallI x with | false => rfl | true => exact absurd ((smallI_iff x).1 hs) (by omega))).symm)
          go_wp2
          go_ret
          exact ⟨ret_bool E9.out, hb2⟩
        by_cases s2 : (500 : Int) < (x.number.size : Int)
        · skip
          have E9 := hide (show false = R by rw [← HR.out]; exact (fewC_no hkl hlm (by rw [HX.out]; cases hs : smallI x with | false => rfl | true => exact absurd ((smallI_iff x).1 hs) (by omega))).symm)
          go_wp2
          go_ret
          exact ⟨ret_bool E9.out, hb2⟩
        by_cases s3 : (500 : Int) < (x.north.size : Int)
        · skip
          have E9 := hide (show false = R by rw [← HR.out]; exact (fewC_no hkl hlm (by rw [HX.out]; cases hs : smallI x with | false => rfl | true => exact absurd ((smallI_iff x).1 hs) (by omega))).symm)
          go_wp2
          go_ret
          exact ⟨ret_bool E9.out, hb2⟩
        by_cases s4 : (500 : Int) < (x.south.size : Int)
        · skip
          have E9 := hide (show false = R by rw [← HR.out]; exact (fewC_no hkl hlm (by rw [HX.out]; cases hs : smallI x with | false => rfl | true => exact absurd ((smallI_iff x).1 hs) (by omega))).symm)
          go_wp2
          go_ret
          exact ⟨ret_bool E9.out, hb2⟩
        have HS := hide (show smallI x = true from (smallI_iff x).2 (by omega))
        go_wp2
        go_roundw
        case rel => exact ⟨k + 1, by omega, by omega, by go_num, hb2, hr2, fun y hy => by
          rw [List.take_succ_eq_append_getElem hkl, HX.out] at hy
          rcases List.mem_append.1 hy with h | h
          · exact hall.out y h
          · rw [List.mem_singleton.1 h]; exact HS.out⟩
        case measure => simp [intOf]; omega
      · obtain rfl : k = m := by omega
        have hkm2 : ¬ (k : Int) < (k : Int) := by omega
        have hnn : ¬ (n : Int) ≤ (k : Int) := by omega
        have hf := fewC_many (l := l) (m := k) (by rw [HL.out]; exact hlt)
        have e9 := HR.out
        rw [hf] at e9
        have E9 := hide e9
        clear hf e9
        go_wp2
        go_ret
        exact ⟨ret_bool E9.out, hb⟩
    · obtain rfl : k = n := by omega
      have hkn : ¬ (k : Int) < (k : Int) := by omega
      have hnn : (k : Int) ≤ (m : Int) := by omega
      have hf := fewC_yes (l := l) (m := m) (by rw [HL.out]; exact hkm) (by have h := hall.out; rw [← HL.out, List.take_length] at h; exact h)
      have e9 := HR.out
      rw [hf] at e9
      have E9 := hide e9
      clear hf e9
      go_wp2
      go_ret
      exact ⟨ret_bool E9.out, hb⟩
end Go.Proofs.YtpldhempbdionaaGreatDoor
/- few of the laws. No conditions but those that each theorem states. -/
namespace Go.Proofs.YtpldhempbdionaaGreatDoor
open Go Go.RowKit Go.Sort Go.Maps
/-- A code as it lies: its items, where, and how many there is room for. -/
structure Cd where
  l : List Dg.It
  A : Option Addr
  c : Nat
/-- Codes in a row. -/
structure Cds (w : World) (b : Nat) (ds : List Cd) : Prop where
  lt : b < w.heap.size
  at_ : ∀ (j : Nat) d, ds[j]? = some d → w.cell? ⟨b, j, none⟩ = some (.slice d.A d.l.length d.c) ∧ Its w w.heap.size d.A d.l ∧ d.l.length ≤ 9223372036854775807
theorem Cds.keep {w w' : World} {b : Nat} {ds : List Cd} (h : Cds w b ds) (hb : Below w.heap.size w w') : Cds w' b ds :=
  ⟨Nat.lt_of_lt_of_le h.lt hb.size, fun j d hj => by
    obtain ⟨h1, h2, h3⟩ := h.at_ j d hj
    exact ⟨(hb.cell (p := ⟨b, j, none⟩) h.lt).trans h1, h2.keep hb, h3⟩⟩
set_option maxRecDepth 100000 in
set_option maxHeartbeats 8000000 in
theorem cfew_of (ds : List Cd) (b n : Nat) (hn : ds.length = n) (hm : n ≤ 1000) (w : World) (hD : Cds w b ds) (R : Bool) (hR : (ds.all fun d => fewC d.l 30) = R) :
    Calls Tryz.prog 10 #[.slice (some ⟨b, 0, none⟩) n n] w fun e w' => e = .returned (.bool R) ∧ Below w.heap.size w w' := by
  have HL := hide hn; have HR := hide hR; have HD := hide hD
  clear hn hR hD
  go_enter Tryz.func10, Tryz.ntmps10
  go_wp2
  go_loopw [3] (fun iv wr => ∃ k : Nat, k ≤ n ∧ iv = .int .i64 (k : Int) ∧ Below w.heap.size w wr ∧ Hid (∀ d ∈ ds.take k, fewC d.l 30 = true)) (fun iv _ => n - (intOf iv).toNat)
  case atStart => exact ⟨0, by omega, rfl, Below.refl _ _, fun x hx => by simp at hx⟩
  case round =>
    obtain ⟨k, hk, rfl, hb, hall⟩ := hrel
    by_cases hlt : k < n
    · have hkn : (k : Int) < (n : Int) := by omega
      have hk0 : (0 : Int) ≤ (k : Int) := by omega
      have hkl : k < ds.length := by rw [HL.out]; exact hlt
      have hDr := HD.out.keep hb
      obtain ⟨d, hd⟩ : ∃ d, ds[k] = d := ⟨_, rfl⟩
      obtain ⟨hc, hI, hdl⟩ := hDr.at_ k d (by rw [List.getElem?_eq_getElem hkl, hd])
      have HDD := hide hd
      clear hd hDr
      have hc' : wr.cell? ⟨b, 0 + k, none⟩ = some (.slice d.A d.l.length d.c) := by rw [Nat.zero_add]; exact hc
      go_wp2_with fail
      obtain ⟨F, hF⟩ : ∃ F, fewC d.l 30 = F := ⟨_, rfl⟩
      refine (rfew_of d.l d.A d.l.length d.c 30 rfl hdl (by omega) wr hI F hF).mono ?_
      rintro e w2 ⟨rfl, hb2⟩
      have hb3 := bnext hb hb2
      clear hc hc' hI
      cases F with
      | true =>
        have HF := hide hF
        clear hF
        go_wp2
        go_roundw
        case rel => exact ⟨k + 1, by omega, by go_num, hb3, fun y hy => by
          rw [List.take_succ_eq_append_getElem hkl, HDD.out] at hy
          rcases List.mem_append.1 hy with h | h
          · exact hall.out y h
          · rw [List.mem_singleton.1 h]; exact HF.out⟩
        case measure => simp [intOf]; omega
      | false =>
        have E9 := hide (show false = R by rw [← HR.out]; exact (List.all_eq_false.2 ⟨d, by rw [← HDD.out]; exact List.getElem_mem hkl, by rw [hF]; exact Bool.false_ne_true⟩).symm)
        clear hF
        go_wp2
        go_ret
        exact ⟨ret_bool E9.out, hb3⟩
    · obtain rfl : k = n := by omega
      have E9 := hide (show true = R by rw [← HR.out]; exact (List.all_eq_true.2 (by have h := hall.out; rw [← HL.out, List.take_length] at h; exact h)).symm)
      go_wp2
      go_ret
      exact ⟨ret_bool E9.out, hb⟩
end Go.Proofs.YtpldhempbdionaaGreatDoor
/- Same of the reference for codes. No conditions but those that each theorem states. -/
namespace Go.Proofs.YtpldhempbdionaaGreatDoor
open Go Go.RowKit Go.Sort Go.Maps
theorem bytes_beq (a b : ByteArray) : (a.toList == b.toList) = true ↔ a = b := by
  rw [beq_iff_eq]
  constructor
  · intro h
    rw [ByteArray.toList_eq, ByteArray.toList_eq] at h
    obtain ⟨⟨x⟩⟩ := a
    obtain ⟨⟨y⟩⟩ := b
    simpa using h
  · rintro rfl; rfl
theorem it_ext {x y : Dg.It} (h1 : x.kind = y.kind) (h2 : x.id = y.id) (h3 : x.parent = y.parent) (h4 : x.number = y.number) (h5 : x.north = y.north) (h6 : x.south = y.south) (h7 : x.gone = y.gone) : x = y := by
  cases x; cases y; simp_all
def sameI (x y : Dg.It) : Bool := (x.kind == y.kind) && ((x.id.toList == y.id.toList) && ((x.parent.toList == y.parent.toList) && ((x.number.toList == y.number.toList) && ((x.north.toList == y.north.toList) && ((x.south.toList == y.south.toList) && (x.gone == y.gone))))))
theorem sameI_iff (x y : Dg.It) : sameI x y = true ↔ x = y := by
  unfold sameI
  rw [Bool.and_eq_true, Bool.and_eq_true, Bool.and_eq_true, Bool.and_eq_true, Bool.and_eq_true, Bool.and_eq_true, bytes_beq, bytes_beq, bytes_beq, bytes_beq, bytes_beq, beq_iff_eq, beq_iff_eq]
  constructor
  · rintro ⟨h1, h2, h3, h4, h5, h6, h7⟩
    exact it_ext h1 h2 h3 h4 h5 h6 h7
  · rintro rfl
    exact ⟨rfl, rfl, rfl, rfl, rfl, rfl, rfl⟩
set_option maxRecDepth 100000 in
theorem item_run (w : World) (x y : Dg.It) : (binOp .neq 31 (.agg #[.int .i64 x.kind, .string x.id, .string x.parent, .string x.number, .string x.north, .string x.south, .bool x.gone]) (.agg #[.int .i64 y.kind, .string y.id, .string y.parent, .string y.number, .string y.north, .string y.south, .bool y.gone])).run Tryz.prog w = .ok (.bool (!sameI x y)) w := by
  have hS : Tryz.prog.underlying 31 = some (.struct (Tryz.prog.fieldsOf 31)) := by kernel_rfl
  have hp : Tryz.prog.stoodInHeld 31 = false := by kernel_rfl
  rw [run_neq_struct, show (10000 : Nat) = 9999 + 1 from rfl, run_equalIn_agg w 9999 31 _ _ hS hp]
  simp only [Program.fieldsOf, Tryz.underlying31]
  have u3 := Tryz.underlying3
  have u4 := Tryz.underlying4
  have u5 := Tryz.underlying9
  have a3 := Tryz.isAgg3
  have a4 := Tryz.isAgg4
  have a5 := Tryz.isAgg9
  have z3 := Tryz.sizeOf3
  have z4 := Tryz.sizeOf4
  have z5 := Tryz.sizeOf9
  go_simp
  unfold sameI
  by_cases h1 : x.kind = y.kind <;> by_cases h2 : x.id.toList = y.id.toList <;> by_cases h3 : x.parent.toList = y.parent.toList <;> by_cases h4 : x.number.toList = y.number.toList <;> by_cases h5 : x.north.toList = y.north.toList <;> by_cases h6 : x.south.toList = y.south.toList <;> by_cases h7 : x.gone = y.gone <;> simp [h1, h2, h3, h4, h5, h6, h7]
end Go.Proofs.YtpldhempbdionaaGreatDoor
/- Same of the reference for codes: the walk. No conditions but those that each theorem states. -/
namespace Go.Proofs.YtpldhempbdionaaGreatDoor
open Go Go.RowKit Go.Sort Go.Maps
attribute [-go_sem] run_neq_struct in
set_option maxRecDepth 100000 in
set_option maxHeartbeats 8000000 in
theorem same18_of (l m : List Dg.It) (A B : Option Addr) (n c k d : Nat) (hl : l.length = n) (hm : m.length = k) (hn : n ≤ 9223372036854775807) (hk : k ≤ 9223372036854775807) (w : World) (hI : Its w w.heap.size A l) (hJ : Its w w.heap.size B m) (R : Bool) (hR : R = true ↔ l = m) :
    Calls Tryz.prog 16 #[.agg #[.slice A n c], .agg #[.slice B k d]] w fun e w' => e = .returned (.bool R) ∧ Below w.heap.size w w' := by
  have hx1 := Below.news (Below.refl w.heap.size w) (.cells #[.slice A n c] 24)
  have hx2 := bnext hx1 (Below.news (Below.refl (w.alloc (.cells #[.slice A n c] 24)).heap.size (w.alloc (.cells #[.slice A n c] 24))) (.cells #[.slice B k d] 24))
  have hr1 := iNext (heap_alloc_new w (.cells #[.slice A n c] 24)) (Below.news (Below.refl (w.alloc (.cells #[.slice A n c] 24)).heap.size (w.alloc (.cells #[.slice A n c] 24))) (.cells #[.slice B k d] 24))
  have hr2 := heap_alloc_new (w.alloc (.cells #[.slice A n c] 24)) (.cells #[.slice B k d] 24)
  have hI2 := hI.keep hx2
  have hJ2 := hJ.keep hx2
  have hz1 : (w.alloc (.cells #[.slice A n c] 24)).heap.size = w.heap.size + 1 := by simp
  rw [hz1] at hr2
  clear hx1 hI hJ hz1
  have HL := hide hl; have HM := hide hm; have HR := hide hR
  clear hl hm hR
  go_enter Tryz.func16, Tryz.ntmps16
  go_upto_region 1 with (fail)
  generalize (w.alloc (.cells #[.slice A n c] 24)).alloc (.cells #[.slice B k d] 24) = w2 at *
  have hc1 := iCells0 hr1
  have hc2 := iCells0 hr2
  by_cases hnk : n = k
  · obtain rfl := hnk
    go_wp2
    clear hc1 hc2
    go_loopw [5] (fun iv wr => ∃ j : Nat, j ≤ n ∧ iv = .int .i64 (j : Int) ∧ Below w.heap.size w wr ∧ Below w2.heap.size w2 wr ∧ Hid (∀ i, i < j → l[i]? = m[i]?)) (fun iv _ => n - (intOf iv).toNat)
    case atStart => exact ⟨0, by omega, rfl, hx2, Below.refl _ _, fun i hi => absurd hi (by omega)⟩
    case round =>
      obtain ⟨j, hj, rfl, hb, hb2, hall⟩ := hrel
      have hc1 := iCells0 (iNext hr1 hb2)
      have hc2 := iCells0 (iNext hr2 hb2)
      have hIr := hI2.keep hb2
      have hJr := hJ2.keep hb2
      by_cases hlt : j < n
      · have hjn : (j : Int) < (n : Int) := by omega
        have hj0 : (0 : Int) ≤ (j : Int) := by omega
        have hjl : j < l.length := by rw [HL.out]; exact hlt
        have hjm : j < m.length := by rw [HM.out]; exact hlt
        obtain ⟨ba, oa, rfl⟩ := hIr.some hjl
        obtain ⟨bb, ob, rfl⟩ := hJr.some hjm
        obtain ⟨x, hx⟩ : ∃ x, l[j] = x := ⟨_, rfl⟩
        obtain ⟨y, hy⟩ : ∃ y, m[j] = y := ⟨_, rfl⟩
        obtain ⟨_, p0, p1, p2, p3, p4, p5, p6⟩ := hIr.cells hjl x hx
        obtain ⟨_, q0, q1, q2, q3, q4, q5, q6⟩ := hJr.cells hjm y hy
        have HX := hide hx; have HY := hide hy
        clear hx hy hIr hJr hI2 hJ2
        obtain ⟨S, hS⟩ : ∃ S, sameI x y = S := ⟨_, rfl⟩
        have hneq : ∀ wx, (binOp .neq 31 (.agg #[.int .i64 x.kind, .string x.id, .string x.parent, .string x.number, .string x.north, .string x.south, .bool x.gone]) (.agg #[.int .i64 y.kind, .string y.id, .string y.parent, .string y.number, .string y.north, .string y.south, .bool y.gone])).run Tryz.prog wx = .ok (.bool (!S)) wx := fun wx => by rw [← hS]; exact item_run wx x y
        have HS := hide hS
        clear hS
        have hqg : Tryz.prog.eqGuardType Tryz.prog.depth 31 = false := by kernel_rfl
        go_upto_region 6 with (fail)
        go_quiet (fail)
        have hbn := below_drewN (Below.refl wr.heap.size wr) nq
        cases S with
        | true =>
          go_wp2
          go_roundw
          case rel => exact ⟨j + 1, by omega, by go_num, bnext hb hbn, bnext hb2 hbn, fun i hi => by
            rcases Nat.lt_or_eq_of_le (Nat.le_of_lt_succ hi) with h | h
            · exact hall.out i h
            · rw [h, List.getElem?_eq_getElem hjl, List.getElem?_eq_getElem hjm, HX.out, HY.out, (sameI_iff x y).1 HS.out]⟩
          case measure => simp [intOf]; omega
        | false =>
          have E9 := hide (show false = R by
            cases hr9 : R with
            | false => rfl
            | true =>
              have h9 := HR.out.1 hr9
              have h8 : x = y := by rw [← HX.out, ← HY.out]; simp only [h9]
              rw [(sameI_iff x y).2 h8] at HS
              exact absurd HS.out (by decide))
          go_wp2
          go_ret
          exact ⟨ret_bool E9.out, bnext hb hbn⟩
      · obtain rfl : n = j := by omega
        have E9 := hide (show true = R from (HR.out.2 (List.ext_getElem? fun i => by
          by_cases hi : i < n
          · exact hall.out i hi
          · rw [List.getElem?_eq_none (by rw [HL.out]; omega), List.getElem?_eq_none (by rw [HM.out]; omega)])).symm)
        go_wp2
        go_ret
        exact ⟨ret_bool E9.out, hb⟩
  · have hnk' : ¬ (n : Int) = (k : Int) := by omega
    have E9 := hide (show false = R by
      cases hr9 : R with
      | false => rfl
      | true => exact absurd (by rw [← HL.out, ← HM.out, HR.out.1 hr9]) hnk)
    clear hnk
    go_wp2
    go_ret
    exact ⟨ret_bool E9.out, hx2⟩
end Go.Proofs.YtpldhempbdionaaGreatDoor
/- Fields of the reference for codes. No conditions but those that each theorem states. -/
namespace Go.Proofs.YtpldhempbdionaaGreatDoor
open Go Go.RowKit Go.Sort Go.Maps
theorem grown_row {u u' : World} {own : Option Nat} {g : Nat} {o : Obj} (hg : u.grownBy u' own) (h : u.heap[g]? = some o) (hne : ∀ k, own = some k → k ≠ g) : u'.heap[g]? = some o :=
  (hg.block g (lt_of_block h) (fun e => hne g e.symm rfl)).trans h
end Go.Proofs.YtpldhempbdionaaGreatDoor
/- The lines of package code's Text. No conditions but those that each theorem states. -/
namespace Go.Proofs.YtpldhempbdionaaGreatDoor
open Go Go.RowKit Go.Sort Go.Maps
/-- A text, or a dash. -/
def orS (s : ByteArray) : ByteArray := if s = Dg.nil8 then ⟨#[45]⟩ else s
theorem L_orS (s : ByteArray) : Dg.L (orS s) = Dg.orL (Dg.L s) := by
  unfold orS Dg.orL
  by_cases h : s = Dg.nil8
  · rw [if_pos h, if_pos (by rw [h]; rfl)]; rfl
  · rw [if_neg h, if_neg (show ¬ Dg.L s = [] from fun e => h (Dg.L_inj e))]
theorem join_words : ∀ ws : List (List UInt8), Lib.join ws [32] = Dg.joinW ws
  | [] => rfl
  | [a] => by unfold Lib.join Dg.joinW; simp [List.intercalate]
  | a :: b :: r => by
    have ih := join_words (b :: r)
    unfold Dg.joinW
    rw [← ih]
    unfold Lib.join
    simp [List.intercalate]
theorem BldStep.after {bb n0 : Nat} {W W1 W' : World} {v : Value} {l' : List UInt8} (h : BldStep bb n0 W1 W' v l') (hb : Below W.heap.size W W1) : BldStep bb n0 W W' v l' := by
  obtain ⟨v', h1, h2, h3⟩ := h
  exact ⟨v', h1, (Off.of_below hb).trans h2 (fun _ h => Or.inl h), fun g hg => (h3 g hg).imp id (fun h => Nat.le_trans hb.size h)⟩
theorem bw_len {l : List UInt8} {J : ByteArray} {n : Nat} (h1 : l.length + n ≤ 2199023255552) (h2 : J.size + 1 = n) : l.length + (J ++ ⟨#[10]⟩).size ≤ 2199023255552 := by
  have h3 : (J ++ ⟨#[10]⟩).size = J.size + 1 := by rw [ByteArray.size_append]; rfl
  rw [h3, h2]
  exact h1
theorem own_row4 {w : World} {B g : Nat} (hB : B ≤ g) {a b c d : ByteArray} (h : w.heap[g]? = some (.cells #[.string a, .string b, .string c, .string d] 9 (0, 0))) : OwnS w B (.slice (some ⟨g, 0, none⟩) 4 4) [a, b, c, d] :=
  ⟨by simp, Or.inr ⟨g, 4, _, rfl, hB, h, Nat.le_refl _, by unfold maxLen; omega, rfl, rfl⟩⟩
theorem row4_get {w : World} {g : Nat} {a b c d : ByteArray} (h : w.heap[g]? = some (.cells #[.string a, .string b, .string c, .string d] 9 (0, 0))) : ∀ (j : Nat) x, [a, b, c, d][j]? = some x → w.cell? ⟨g, 0 + j, none⟩ = some (.string x) := fun j s hj => by
  rw [cell_of_row _ _ _ _ _ (0, 0) h, Nat.zero_add, ← Array.getElem?_toList]
  have h9 : ([a, b, c, d].map Value.string)[j]? = some (.string s) := by rw [List.getElem?_map, hj]; rfl
  exact h9
set_option maxRecDepth 100000 in
set_option maxHeartbeats 8000000 in
theorem text1_any (x : Dg.It) (hkd : x.kind = 1 ∨ x.kind = 2) (hz : ∀ s ∈ Dg.fieldsI x, s.size ≤ 1073741824) (bb n0 : Nat) (hbb : bb < n0) (v : Value) (l : List UInt8) (w : World) (h : BldAt bb n0 w v l) (hlen : l.length + (Dg.lineL x).length ≤ 2199023255552) (hn : n0 ≤ w.heap.size) (R : List UInt8) (hR : l ++ Dg.lineL x = R) :
    Calls Tryz.prog 49 #[.agg #[.int .i64 x.kind, .string x.id, .string x.parent, .string x.number, .string x.north, .string x.south, .bool x.gone], .pointer (some ⟨bb, 0, none⟩)] w fun e w' => e = .returned (.tuple #[]) ∧ BldStep bb n0 w w' v R := by
  have HR := hide hR; have HZ := hide hz; have HB := hide h; have HKD := hide hkd; have HLEN := hide hlen
  clear hR hz h hkd hlen
  have hx1 := Below.news (Below.refl w.heap.size w) (.cells #[.int .i64 x.kind, .string x.id, .string x.parent, .string x.number, .string x.north, .string x.south, .bool x.gone] 31)
  have hrow := heap_alloc_new w (.cells #[.int .i64 x.kind, .string x.id, .string x.parent, .string x.number, .string x.north, .string x.south, .bool x.gone] 31)
  have hsz1 : (w.alloc (.cells #[.int .i64 x.kind, .string x.id, .string x.parent, .string x.number, .string x.north, .string x.south, .bool x.gone] 31)).heap.size = w.heap.size + 1 := by simp
  go_enter Tryz.func49, Tryz.ntmps49
  go_upto_region 1 with (fail)
  obtain ⟨c0, c1, c2, c3, c4, c5, c6⟩ := iCells hrow
  generalize w.alloc (.cells #[.int .i64 x.kind, .string x.id, .string x.parent, .string x.number, .string x.north, .string x.south, .bool x.gone] 31) = w1 at *
  go_upto_region 2 with (fail)
  have hx2 := bnext hx1 (Below.news (Below.refl w1.heap.size w1) (.cells #[.string ⟨#[97, 114, 116, 105, 99, 108, 101]⟩, .string x.id, .string x.parent, .string x.number] 9))
  have hrow2 := heap_alloc_new w1 (.cells #[.string ⟨#[97, 114, 116, 105, 99, 108, 101]⟩, .string x.id, .string x.parent, .string x.number] 9)
  have hrow1 := iNext hrow (Below.news (Below.refl w1.heap.size w1) (.cells #[.string ⟨#[97, 114, 116, 105, 99, 108, 101]⟩, .string x.id, .string x.parent, .string x.number] 9))
  rw [hsz1] at hrow2
  generalize w1.alloc (.cells #[.string ⟨#[97, 114, 116, 105, 99, 108, 101]⟩, .string x.id, .string x.parent, .string x.number] 9) = w2 at *
  clear c0 c1 c2 c3 c4 c5 c6 hrow hx1 hsz1
  go_wp2
  go_loopw [4] (fun kv wr => ∃ P Q, ((kv = .int .i64 2 ∧ P = x.parent ∧ Q = x.number) ∨ (kv = .int .i64 3 ∧ P = orS x.parent ∧ Q = x.number) ∨ (kv = .int .i64 4 ∧ P = orS x.parent ∧ Q = orS x.number)) ∧ wr.heap[w.heap.size + 1]? = some (.cells #[.string ⟨#[97, 114, 116, 105, 99, 108, 101]⟩, .string x.id, .string P, .string Q] 9 (0, 0)) ∧ wr.heap[w.heap.size]? = some (.cells #[.int .i64 x.kind, .string x.id, .string x.parent, .string x.number, .string x.north, .string x.south, .bool x.gone] 31 (0, 0)) ∧ Below w.heap.size w wr) (fun kv _ => 4 - (intOf kv).toNat)
  case atStart => exact ⟨_, _, Or.inl ⟨rfl, rfl, rfl⟩, hrow2, hrow1, hx2⟩
  case round =>
    obtain ⟨P, Q, hk, hr2, hr1, hb⟩ := hrel
    clear hrow2 hrow1 hx2
    have w3 : wr.cell? ⟨w.heap.size + 1, 2, none⟩ = some (.string P) := by rw [cell_of_row _ _ _ _ _ (0, 0) hr2]; rfl
    have w4 : wr.cell? ⟨w.heap.size + 1, 3, none⟩ = some (.string Q) := by rw [cell_of_row _ _ _ _ _ (0, 0) hr2]; rfl
    rcases hk with ⟨rfl, hP, hQ⟩ | ⟨rfl, hP, hQ⟩ | ⟨rfl, hP, hQ⟩
    · have fz := frozen_of_row _ (w.heap.size + 1) 2 _ _ hr2
      have hpe : P.toList.isEmpty = decide (P = Dg.nil8) := (emp_iff _).symm
      have HP := hide hP; have HQ := hide hQ
      clear hP hQ
      by_cases hp : P = Dg.nil8
      · have e1 : P.toList.isEmpty = true := hpe.trans (decide_eq_true hp)
        have HE := hide hp
        clear hp hpe
        go_wp2
        go_roundw
        case rel => exact ⟨⟨#[45]⟩, Q, Or.inr (Or.inl ⟨rfl, by rw [← HP.out]; unfold orS; rw [if_pos HE.out], HQ.out⟩), setCell_rowN hr2 2 _, (Below.heap_setCell _ _ _ _ (show w.heap.size ≠ w.heap.size + 1 by omega)).trans hr1, hb.setCell (p := ⟨w.heap.size + 1, 2, none⟩) (show w.heap.size ≤ w.heap.size + 1 by omega) _⟩
        case measure => simp [intOf]
      · have e1 : P.toList.isEmpty = false := hpe.trans (decide_eq_false hp)
        have HE := hide hp
        clear hp hpe
        go_wp2
        go_roundw
        case rel => exact ⟨P, Q, Or.inr (Or.inl ⟨rfl, by unfold orS; rw [← HP.out, if_neg HE.out], HQ.out⟩), hr2, hr1, hb⟩
        case measure => simp [intOf]
    · have fz := frozen_of_row _ (w.heap.size + 1) 3 _ _ hr2
      have hpe : Q.toList.isEmpty = decide (Q = Dg.nil8) := (emp_iff _).symm
      have HP := hide hP; have HQ := hide hQ
      clear hP hQ
      by_cases hp : Q = Dg.nil8
      · have e1 : Q.toList.isEmpty = true := hpe.trans (decide_eq_true hp)
        have HE := hide hp
        clear hp hpe
        go_wp2
        go_roundw
        case rel => exact ⟨P, ⟨#[45]⟩, Or.inr (Or.inr ⟨rfl, HP.out, by rw [← HQ.out]; unfold orS; rw [if_pos HE.out]⟩), setCell_rowN hr2 3 _, (Below.heap_setCell _ _ _ _ (show w.heap.size ≠ w.heap.size + 1 by omega)).trans hr1, hb.setCell (p := ⟨w.heap.size + 1, 3, none⟩) (show w.heap.size ≤ w.heap.size + 1 by omega) _⟩
        case measure => simp [intOf]
      · have e1 : Q.toList.isEmpty = false := hpe.trans (decide_eq_false hp)
        have HE := hide hp
        clear hp hpe
        go_wp2
        go_roundw
        case rel => exact ⟨P, Q, Or.inr (Or.inr ⟨rfl, HP.out, by unfold orS; rw [← HQ.out, if_neg HE.out]⟩), hr2, hr1, hb⟩
        case measure => simp [intOf]
    · skip
      have HP := hide hP; have HQ := hide hQ
      clear hP hQ
      have w5 : wr.cell? ⟨w.heap.size + 1, 0, none⟩ = some (.string ⟨#[97, 114, 116, 105, 99, 108, 101]⟩) := by rw [cell_of_row _ _ _ _ _ (0, 0) hr2]; rfl
      have fz := frozen_of_row _ (w.heap.size + 1) 0 _ _ hr2
      obtain ⟨c0, c1, c2, c3, c4, c5, c6⟩ := iCells hr1
      rcases HKD.out with kz | kz
      · skip
        rw [kz] at c0
        go_upto_region 11 with (fail)
        have hr4 := setCell_rowN hr2 0 (.string ⟨#[100, 105, 118, 105, 115, 105, 111, 110]⟩)
        have hr5 : (wr.setCell ⟨w.heap.size + 1, 0, none⟩ (.string ⟨#[100, 105, 118, 105, 115, 105, 111, 110]⟩)).heap[w.heap.size]? = some (.cells #[.int .i64 x.kind, .string x.id, .string x.parent, .string x.number, .string x.north, .string x.south, .bool x.gone] 31 (0, 0)) := (Below.heap_setCell _ _ _ _ (show w.heap.size ≠ w.heap.size + 1 by omega)).trans hr1
        have hb4 := hb.setCell (p := ⟨w.heap.size + 1, 0, none⟩) (show w.heap.size ≤ w.heap.size + 1 by omega) (.string ⟨#[100, 105, 118, 105, 115, 105, 111, 110]⟩)
        clear c0 c1 c2 c3 c4 c5 c6 fz w3 w4 w5
        generalize wr.setCell ⟨w.heap.size + 1, 0, none⟩ (.string ⟨#[100, 105, 118, 105, 115, 105, 111, 110]⟩) = u4 at *
        obtain ⟨c0, c1, c2, c3, c4, c5, c6⟩ := iCells hr5
        rw [kz] at c0
        go_wp2_with fail
        have hJ : Lib.join (([⟨#[100, 105, 118, 105, 115, 105, 111, 110]⟩, x.id, P, Q] : List ByteArray).map (·.data.toList)) (⟨#[32]⟩ : ByteArray).data.toList = Dg.joinW (Dg.wordsI x) := by
          rw [show (⟨#[32]⟩ : ByteArray).data.toList = [32] from rfl, join_words]
          refine congrArg Dg.joinW ?_
          unfold Dg.wordsI
          rw [if_pos kz]
          rw [← L_orS, ← L_orS, ← HP.out, ← HQ.out]
          
          rfl
        have hjl : (Dg.lineL x).length = (Dg.joinW (Dg.wordsI x)).length + 1 := by unfold Dg.lineL; rw [List.length_append, List.length_singleton]
        have hjz : (Lib.join (([⟨#[100, 105, 118, 105, 115, 105, 111, 110]⟩, x.id, P, Q] : List ByteArray).map (·.data.toList)) (⟨#[32]⟩ : ByteArray).data.toList).length ≤ 140737488355328 := by
          have := HLEN.out
          rw [hJ]; omega
        refine (Tryz.strings_Join (w.heap.size + 1) 0 4 [⟨#[100, 105, 118, 105, 115, 105, 111, 110]⟩, x.id, P, Q] ⟨#[32]⟩ u4 (row4_get hr4) (lt_of_block hr4) (by simp) (by simp) hjz).mono ?_
        rintro e u7 ⟨rfl, hb7⟩
        obtain ⟨JW, hJW⟩ : ∃ JW : ByteArray, (⟨(Lib.join (([⟨#[100, 105, 118, 105, 115, 105, 111, 110]⟩, x.id, P, Q] : List ByteArray).map (·.data.toList)) (⟨#[32]⟩ : ByteArray).data.toList).toArray⟩ : ByteArray) = JW := ⟨_, rfl⟩
        rw [hJW]
        have hJL : Dg.L JW = Dg.joinW (Dg.wordsI x) := by rw [← hJW, ← hJ]; rfl
        have hJS : JW.size + 1 = (Dg.lineL x).length := by rw [← Dg.len_L, hJL, hjl]
        clear hJW hJ hjl hjz
        have HJL := hide hJL
        clear hJL
        have hb8 := bnext hb4 hb7
        have hJSz : JW.size ≤ 2199023255552 := by have := HLEN.out; omega
        have HJS := hide hJS
        clear hJS
        go_wp2_with fail
        have hw1 := HB.out.next hb8
        have hw2 := bw_len HLEN.out HJS.out
        have hw3 := Nat.le_trans hn hb8.size
        have hw := bwrite_any bb n0 hbb (JW ++ ⟨#[10]⟩) v l u7 hw1 hw2 hw3
        refine hw.mono ?_
        clear hw hw1 hw2 hw3
        rintro e u8 ⟨⟨rr, rfl⟩, hstep⟩
        rw [L_app, HJL.out, show Dg.joinW (Dg.wordsI x) ++ Dg.L ⟨#[10]⟩ = Dg.lineL x from rfl, HR.out] at hstep
        go_wp2
        go_end0
        exact ⟨rfl, hstep.after hb8⟩
      · cases hgo : x.gone with
        | true =>
          rw [kz] at c0
          rw [hgo] at c6
          go_upto_region 11 with (fail)
          have hr4 := setCell_rowN hr2 0 (.string ⟨#[114, 101, 112, 101, 97, 108, 101, 100]⟩)
          have hr5 : (wr.setCell ⟨w.heap.size + 1, 0, none⟩ (.string ⟨#[114, 101, 112, 101, 97, 108, 101, 100]⟩)).heap[w.heap.size]? = some (.cells #[.int .i64 x.kind, .string x.id, .string x.parent, .string x.number, .string x.north, .string x.south, .bool x.gone] 31 (0, 0)) := (Below.heap_setCell _ _ _ _ (show w.heap.size ≠ w.heap.size + 1 by omega)).trans hr1
          have hb4 := hb.setCell (p := ⟨w.heap.size + 1, 0, none⟩) (show w.heap.size ≤ w.heap.size + 1 by omega) (.string ⟨#[114, 101, 112, 101, 97, 108, 101, 100]⟩)
          clear c0 c1 c2 c3 c4 c5 c6 fz w3 w4 w5
          generalize wr.setCell ⟨w.heap.size + 1, 0, none⟩ (.string ⟨#[114, 101, 112, 101, 97, 108, 101, 100]⟩) = u4 at *
          obtain ⟨c0, c1, c2, c3, c4, c5, c6⟩ := iCells hr5
          rw [kz] at c0
          go_upto_region 12 with (fail)
          clear c0 c1 c2 c3 c4 c5 c6
          have hmx : Tryz.prog.follows .mixedOrders = true := by kernel_rfl
          refine wp_region_noPanic ?_
          refine wp_region_L (fun X_ : World => X_.heap[w.heap.size + 1]? = some (.cells #[.string ⟨#[114, 101, 112, 101, 97, 108, 101, 100]⟩, .string x.id, .string P, .string Q] 9 (0, 0)) ∧ X_.heap[w.heap.size]? = some (.cells #[.int .i64 x.kind, .string x.id, .string x.parent, .string x.number, .string x.north, .string x.south, .bool x.gone] 31 (0, 0))) 8 hmx ?_
          have hb5 : Below w.heap.size w u4.drew := bnext hb4 (Below.refl u4.heap.size u4).drew
          have hHeld : (fun X_ : World => X_.heap[w.heap.size + 1]? = some (.cells #[.string ⟨#[114, 101, 112, 101, 97, 108, 101, 100]⟩, .string x.id, .string P, .string Q] 9 (0, 0)) ∧ X_.heap[w.heap.size]? = some (.cells #[.int .i64 x.kind, .string x.id, .string x.parent, .string x.number, .string x.north, .string x.south, .bool x.gone] 31 (0, 0))) u4.drew := ⟨hr4, hr5⟩
          clear hr4 hr5
          generalize u4.drew = u5 at *
          clear hb4
          refine wpAnyL_take (i := 0) (f0 := 12) (v := ?_) rfl (by decide +kernel) (by decide +kernel) (by decide +kernel) (by decide +kernel) (by decide +kernel) (fun _ _ _ h => h) (Or.inl ⟨by rfl, ?_⟩) hHeld ?_
          rotate_left
          · intro wS hS; obtain ⟨hS1, hS2⟩ := hS; go_simp; (try with_reducible rfl)
          simp only [Act.put, List.getElem_toArray, List.getElem_cons_succ, List.getElem_cons_zero, List.setIfInBounds_toArray, List.set_cons_succ, List.set_cons_zero]
          refine wpAnyL_take (i := 1) (f0 := 12) (v := ?_) rfl (by decide +kernel) (by decide +kernel) (by decide +kernel) (by decide +kernel) (by decide +kernel) (fun _ _ _ h => h) (Or.inl ⟨by rfl, ?_⟩) hHeld ?_
          rotate_left
          · intro wS hS; obtain ⟨hS1, hS2⟩ := hS; go_simp; (try with_reducible rfl)
          simp only [Act.put, List.getElem_toArray, List.getElem_cons_succ, List.getElem_cons_zero, List.setIfInBounds_toArray, List.set_cons_succ, List.set_cons_zero]
          refine wpAnyL_take (i := 2) (f0 := 12) (v := ?_) rfl (by decide +kernel) (by decide +kernel) (by decide +kernel) (by decide +kernel) (by decide +kernel) (fun _ _ _ h => h) (Or.inl ⟨by rfl, ?_⟩) hHeld ?_
          rotate_left
          · intro wS hS; obtain ⟨hS1, hS2⟩ := hS; obtain ⟨c0, c1, c2, c3, c4, c5, c6⟩ := iCells hS2; go_simp; (try with_reducible rfl)
          simp only [Act.put, List.getElem_toArray, List.getElem_cons_succ, List.getElem_cons_zero, List.setIfInBounds_toArray, List.set_cons_succ, List.set_cons_zero]
          refine wpAnyL_take (i := 4) (f0 := 12) (v := ?_) rfl (by decide +kernel) (by decide +kernel) (by decide +kernel) (by decide +kernel) (by decide +kernel) (fun _ _ _ h => h) (Or.inl ⟨by rfl, ?_⟩) hHeld ?_
          rotate_left
          · intro wS hS; obtain ⟨hS1, hS2⟩ := hS; go_simp; (try with_reducible rfl)
          simp only [Act.put, List.getElem_toArray, List.getElem_cons_succ, List.getElem_cons_zero, List.setIfInBounds_toArray, List.set_cons_succ, List.set_cons_zero]
          refine wpAnyL_take (i := 5) (f0 := 12) (v := ?_) rfl (by decide +kernel) (by decide +kernel) (by decide +kernel) (by decide +kernel) (by decide +kernel) (fun _ _ _ h => h) (Or.inl ⟨by rfl, ?_⟩) hHeld ?_
          rotate_left
          · intro wS hS; obtain ⟨hS1, hS2⟩ := hS; obtain ⟨c0, c1, c2, c3, c4, c5, c6⟩ := iCells hS2; go_simp; (try with_reducible rfl)
          simp only [Act.put, List.getElem_toArray, List.getElem_cons_succ, List.getElem_cons_zero, List.setIfInBounds_toArray, List.set_cons_succ, List.set_cons_zero]
          refine wpAnyL_one (i := 3) (by decide +kernel) (by rfl) (fun K hK => ?_)
          rw [if_pos (by rfl)]
          go_simp
          refine (quoted_any x.north (HZ.out _ (by unfold Dg.fieldsI; simp)) u5 (Dg.B (Dg.quoteL (Dg.L x.north))) rfl).mono ?_
          rintro e u6 ⟨rfl, hb6⟩
          have hx6 := bnext hb5 hb6
          have hHeld6 : (fun X_ : World => X_.heap[w.heap.size + 1]? = some (.cells #[.string ⟨#[114, 101, 112, 101, 97, 108, 101, 100]⟩, .string x.id, .string P, .string Q] 9 (0, 0)) ∧ X_.heap[w.heap.size]? = some (.cells #[.int .i64 x.kind, .string x.id, .string x.parent, .string x.number, .string x.north, .string x.south, .bool x.gone] 31 (0, 0))) u6 := ⟨iNext hHeld.1 hb6, iNext hHeld.2 hb6⟩
          refine hK.out _ _ (Or.inr hHeld6) ?_
          clear hK K hHeld hb6 hb5
          try simp only [Act.put, List.getElem_toArray, List.getElem_cons_succ, List.getElem_cons_zero, List.setIfInBounds_toArray, List.set_cons_succ, List.set_cons_zero]
          refine wpAnyL_one (i := 6) (by decide +kernel) (by rfl) (fun K hK => ?_)
          rw [if_pos (by rfl)]
          go_simp
          refine (quoted_any x.south (HZ.out _ (by unfold Dg.fieldsI; simp)) u6 (Dg.B (Dg.quoteL (Dg.L x.south))) rfl).mono ?_
          rintro e u7 ⟨rfl, hb7⟩
          have hx7 := bnext hx6 hb7
          have hHeld7 : (fun X_ : World => X_.heap[w.heap.size + 1]? = some (.cells #[.string ⟨#[114, 101, 112, 101, 97, 108, 101, 100]⟩, .string x.id, .string P, .string Q] 9 (0, 0)) ∧ X_.heap[w.heap.size]? = some (.cells #[.int .i64 x.kind, .string x.id, .string x.parent, .string x.number, .string x.north, .string x.south, .bool x.gone] 31 (0, 0))) u7 := ⟨iNext hHeld6.1 hb7, iNext hHeld6.2 hb7⟩
          refine hK.out _ _ (Or.inr hHeld7) ?_
          clear hK K hHeld6 hb7 hx6
          try simp only [Act.put, List.getElem_toArray, List.getElem_cons_succ, List.getElem_cons_zero, List.setIfInBounds_toArray, List.set_cons_succ, List.set_cons_zero]
          obtain ⟨qn, hqn⟩ : ∃ q, Dg.B (Dg.quoteL (Dg.L x.north)) = q := ⟨_, rfl⟩
          obtain ⟨qs, hqs⟩ : ∃ q, Dg.B (Dg.quoteL (Dg.L x.south)) = q := ⟨_, rfl⟩
          rw [hqn, hqs]
          have HQN := hide hqn; have HQS := hide hqs
          clear hqn hqs
          refine wpAnyL_one (i := 7) (by decide +kernel) (by rfl) (fun K hK => ?_)
          rw [if_pos (by rfl)]
          go_simp
          have hn8 := Below.news (Below.refl u7.heap.size u7) (.cells #[.string qn, .string qs] 9)
          have hx8 := bnext hx7 hn8
          have hHeld8 : (fun X_ : World => X_.heap[w.heap.size + 1]? = some (.cells #[.string ⟨#[114, 101, 112, 101, 97, 108, 101, 100]⟩, .string x.id, .string P, .string Q] 9 (0, 0)) ∧ X_.heap[w.heap.size]? = some (.cells #[.int .i64 x.kind, .string x.id, .string x.parent, .string x.number, .string x.north, .string x.south, .bool x.gone] 31 (0, 0))) (u7.alloc (.cells #[.string qn, .string qs] 9)) := ⟨iNext hHeld7.1 hn8, iNext hHeld7.2 hn8⟩
          refine hK.out _ _ (Or.inr hHeld8) ?_
          clear hK K hHeld7 hn8
          try simp only [Act.put, List.getElem_toArray, List.getElem_cons_succ, List.getElem_cons_zero, List.setIfInBounds_toArray, List.set_cons_succ, List.set_cons_zero]
          refine wpAnyL_one (i := 8) (by decide +kernel) (by rfl) (fun K hK => ?_)
          rw [if_pos (by rfl)]
          refine wp_ag (.tmp 38) (.tmp 45) (by rfl) w.heap.size _ [⟨#[114, 101, 112, 101, 97, 108, 101, 100]⟩, x.id, P, Q] [qn, qs] (by rfl) (own_row4 (Nat.le_succ _) hHeld8.1) ⟨u7.heap.size, 0, none⟩ 2 2 (by rfl) rfl (fun j s hj => by
            rw [addr_off, cell_of_row _ _ _ _ _ (0, 0) (heap_alloc_new u7 _), Nat.zero_add, ← Array.getElem?_toList]
            have h9 : ([qn, qs].map Value.string)[j]? = some (.string s) := by rw [List.getElem?_map, hj]; rfl
            exact h9) (by simp) hx8.size ?_
          intro v8 u8 hO8 hg8 hat8
          have hx9 := hx8.grown hg8 hx8.size (fun k hk => by cases hk; exact Nat.le_succ _)
          refine hK.out _ _ (Or.inl (by decide +kernel)) ?_
          clear hK K hHeld8 hg8 hat8 hx8 hx7
          try simp only [Act.put, List.getElem_toArray, List.getElem_cons_succ, List.getElem_cons_zero, List.setIfInBounds_toArray, List.set_cons_succ, List.set_cons_zero]
          refine wpAnyL_one (i := 9) (by decide +kernel) (by rfl) (fun K hK => ?_)
          rw [if_pos (by rfl)]
          go_simp
          refine hK.out _ _ (Or.inl (by decide +kernel)) ?_
          clear hK K
          try simp only [Act.put, List.getElem_toArray, List.getElem_cons_succ, List.getElem_cons_zero, List.setIfInBounds_toArray, List.set_cons_succ, List.set_cons_zero]
          obtain ⟨A8, c8, e8, hc8, hS8⟩ := hO8.strs
          subst e8
          obtain ⟨g8, off8, rfl, hg8, hcell8⟩ := hS8.at_ (by simp)
          clear hO8 hS8
          refine wpAnyL_done (by decide +kernel) ?_ _
          refine NoPanic.normal ?_
          go_wp2_with fail
          have hJ : Lib.join (([⟨#[114, 101, 112, 101, 97, 108, 101, 100]⟩, x.id, P, Q, qn, qs] : List ByteArray).map (·.data.toList)) (⟨#[32]⟩ : ByteArray).data.toList = Dg.joinW (Dg.wordsI x) := by
            rw [show (⟨#[32]⟩ : ByteArray).data.toList = [32] from rfl, join_words]
            refine congrArg Dg.joinW ?_
            unfold Dg.wordsI
            rw [if_neg (show ¬ x.kind = 1 by rw [kz]; decide), if_pos hgo]
            rw [← L_orS, ← L_orS, ← HP.out, ← HQ.out]
            rw [← HQN.out, ← HQS.out]
            rfl
          have hjl : (Dg.lineL x).length = (Dg.joinW (Dg.wordsI x)).length + 1 := by unfold Dg.lineL; rw [List.length_append, List.length_singleton]
          have hjz : (Lib.join (([⟨#[114, 101, 112, 101, 97, 108, 101, 100]⟩, x.id, P, Q, qn, qs] : List ByteArray).map (·.data.toList)) (⟨#[32]⟩ : ByteArray).data.toList).length ≤ 140737488355328 := by
            have := HLEN.out
            rw [hJ]; omega
          refine (Tryz.strings_Join g8 off8 c8 [⟨#[114, 101, 112, 101, 97, 108, 101, 100]⟩, x.id, P, Q, qn, qs] ⟨#[32]⟩ u8 hcell8 hg8 (by simp) hc8 hjz).mono ?_
          rintro e u7 ⟨rfl, hb7⟩
          obtain ⟨JW, hJW⟩ : ∃ JW : ByteArray, (⟨(Lib.join (([⟨#[114, 101, 112, 101, 97, 108, 101, 100]⟩, x.id, P, Q, qn, qs] : List ByteArray).map (·.data.toList)) (⟨#[32]⟩ : ByteArray).data.toList).toArray⟩ : ByteArray) = JW := ⟨_, rfl⟩
          rw [hJW]
          have hJL : Dg.L JW = Dg.joinW (Dg.wordsI x) := by rw [← hJW, ← hJ]; rfl
          have hJS : JW.size + 1 = (Dg.lineL x).length := by rw [← Dg.len_L, hJL, hjl]
          clear hJW hJ hjl hjz
          have HJL := hide hJL
          clear hJL
          have hb8 := bnext hx9 hb7
          have hJSz : JW.size ≤ 2199023255552 := by have := HLEN.out; omega
          have HJS := hide hJS
          clear hJS
          go_wp2_with fail
          have hw1 := HB.out.next hb8
          have hw2 := bw_len HLEN.out HJS.out
          have hw3 := Nat.le_trans hn hb8.size
          have hw := bwrite_any bb n0 hbb (JW ++ ⟨#[10]⟩) v l u7 hw1 hw2 hw3
          refine hw.mono ?_
          clear hw hw1 hw2 hw3
          rintro e u8 ⟨⟨rr, rfl⟩, hstep⟩
          rw [L_app, HJL.out, show Dg.joinW (Dg.wordsI x) ++ Dg.L ⟨#[10]⟩ = Dg.lineL x from rfl, HR.out] at hstep
          go_wp2
          go_end0
          exact ⟨rfl, hstep.after hb8⟩
        | false =>
          rw [kz] at c0
          rw [hgo] at c6
          go_upto_region 12 with (fail)
          have hr4 := hr2; have hr5 := hr1; have hb4 := hb
          clear c0 c1 c2 c3 c4 c5 c6 fz w3 w4 w5 hr2 hr1 hb
          generalize wr = u4 at *
          have hmx : Tryz.prog.follows .mixedOrders = true := by kernel_rfl
          refine wp_region_noPanic ?_
          refine wp_region_L (fun X_ : World => X_.heap[w.heap.size + 1]? = some (.cells #[.string ⟨#[97, 114, 116, 105, 99, 108, 101]⟩, .string x.id, .string P, .string Q] 9 (0, 0)) ∧ X_.heap[w.heap.size]? = some (.cells #[.int .i64 x.kind, .string x.id, .string x.parent, .string x.number, .string x.north, .string x.south, .bool x.gone] 31 (0, 0))) 8 hmx ?_
          have hb5 : Below w.heap.size w u4.drew := bnext hb4 (Below.refl u4.heap.size u4).drew
          have hHeld : (fun X_ : World => X_.heap[w.heap.size + 1]? = some (.cells #[.string ⟨#[97, 114, 116, 105, 99, 108, 101]⟩, .string x.id, .string P, .string Q] 9 (0, 0)) ∧ X_.heap[w.heap.size]? = some (.cells #[.int .i64 x.kind, .string x.id, .string x.parent, .string x.number, .string x.north, .string x.south, .bool x.gone] 31 (0, 0))) u4.drew := ⟨hr4, hr5⟩
          clear hr4 hr5
          generalize u4.drew = u5 at *
          clear hb4
          refine wpAnyL_take (i := 0) (f0 := 12) (v := ?_) rfl (by decide +kernel) (by decide +kernel) (by decide +kernel) (by decide +kernel) (by decide +kernel) (fun _ _ _ h => h) (Or.inl ⟨by rfl, ?_⟩) hHeld ?_
          rotate_left
          · intro wS hS; obtain ⟨hS1, hS2⟩ := hS; go_simp; (try with_reducible rfl)
          simp only [Act.put, List.getElem_toArray, List.getElem_cons_succ, List.getElem_cons_zero, List.setIfInBounds_toArray, List.set_cons_succ, List.set_cons_zero]
          refine wpAnyL_take (i := 1) (f0 := 12) (v := ?_) rfl (by decide +kernel) (by decide +kernel) (by decide +kernel) (by decide +kernel) (by decide +kernel) (fun _ _ _ h => h) (Or.inl ⟨by rfl, ?_⟩) hHeld ?_
          rotate_left
          · intro wS hS; obtain ⟨hS1, hS2⟩ := hS; go_simp; (try with_reducible rfl)
          simp only [Act.put, List.getElem_toArray, List.getElem_cons_succ, List.getElem_cons_zero, List.setIfInBounds_toArray, List.set_cons_succ, List.set_cons_zero]
          refine wpAnyL_take (i := 2) (f0 := 12) (v := ?_) rfl (by decide +kernel) (by decide +kernel) (by decide +kernel) (by decide +kernel) (by decide +kernel) (fun _ _ _ h => h) (Or.inl ⟨by rfl, ?_⟩) hHeld ?_
          rotate_left
          · intro wS hS; obtain ⟨hS1, hS2⟩ := hS; obtain ⟨c0, c1, c2, c3, c4, c5, c6⟩ := iCells hS2; go_simp; (try with_reducible rfl)
          simp only [Act.put, List.getElem_toArray, List.getElem_cons_succ, List.getElem_cons_zero, List.setIfInBounds_toArray, List.set_cons_succ, List.set_cons_zero]
          refine wpAnyL_take (i := 4) (f0 := 12) (v := ?_) rfl (by decide +kernel) (by decide +kernel) (by decide +kernel) (by decide +kernel) (by decide +kernel) (fun _ _ _ h => h) (Or.inl ⟨by rfl, ?_⟩) hHeld ?_
          rotate_left
          · intro wS hS; obtain ⟨hS1, hS2⟩ := hS; go_simp; (try with_reducible rfl)
          simp only [Act.put, List.getElem_toArray, List.getElem_cons_succ, List.getElem_cons_zero, List.setIfInBounds_toArray, List.set_cons_succ, List.set_cons_zero]
          refine wpAnyL_take (i := 5) (f0 := 12) (v := ?_) rfl (by decide +kernel) (by decide +kernel) (by decide +kernel) (by decide +kernel) (by decide +kernel) (fun _ _ _ h => h) (Or.inl ⟨by rfl, ?_⟩) hHeld ?_
          rotate_left
          · intro wS hS; obtain ⟨hS1, hS2⟩ := hS; obtain ⟨c0, c1, c2, c3, c4, c5, c6⟩ := iCells hS2; go_simp; (try with_reducible rfl)
          simp only [Act.put, List.getElem_toArray, List.getElem_cons_succ, List.getElem_cons_zero, List.setIfInBounds_toArray, List.set_cons_succ, List.set_cons_zero]
          refine wpAnyL_one (i := 3) (by decide +kernel) (by rfl) (fun K hK => ?_)
          rw [if_pos (by rfl)]
          go_simp
          refine (quoted_any x.north (HZ.out _ (by unfold Dg.fieldsI; simp)) u5 (Dg.B (Dg.quoteL (Dg.L x.north))) rfl).mono ?_
          rintro e u6 ⟨rfl, hb6⟩
          have hx6 := bnext hb5 hb6
          have hHeld6 : (fun X_ : World => X_.heap[w.heap.size + 1]? = some (.cells #[.string ⟨#[97, 114, 116, 105, 99, 108, 101]⟩, .string x.id, .string P, .string Q] 9 (0, 0)) ∧ X_.heap[w.heap.size]? = some (.cells #[.int .i64 x.kind, .string x.id, .string x.parent, .string x.number, .string x.north, .string x.south, .bool x.gone] 31 (0, 0))) u6 := ⟨iNext hHeld.1 hb6, iNext hHeld.2 hb6⟩
          refine hK.out _ _ (Or.inr hHeld6) ?_
          clear hK K hHeld hb6 hb5
          try simp only [Act.put, List.getElem_toArray, List.getElem_cons_succ, List.getElem_cons_zero, List.setIfInBounds_toArray, List.set_cons_succ, List.set_cons_zero]
          refine wpAnyL_one (i := 6) (by decide +kernel) (by rfl) (fun K hK => ?_)
          rw [if_pos (by rfl)]
          go_simp
          refine (quoted_any x.south (HZ.out _ (by unfold Dg.fieldsI; simp)) u6 (Dg.B (Dg.quoteL (Dg.L x.south))) rfl).mono ?_
          rintro e u7 ⟨rfl, hb7⟩
          have hx7 := bnext hx6 hb7
          have hHeld7 : (fun X_ : World => X_.heap[w.heap.size + 1]? = some (.cells #[.string ⟨#[97, 114, 116, 105, 99, 108, 101]⟩, .string x.id, .string P, .string Q] 9 (0, 0)) ∧ X_.heap[w.heap.size]? = some (.cells #[.int .i64 x.kind, .string x.id, .string x.parent, .string x.number, .string x.north, .string x.south, .bool x.gone] 31 (0, 0))) u7 := ⟨iNext hHeld6.1 hb7, iNext hHeld6.2 hb7⟩
          refine hK.out _ _ (Or.inr hHeld7) ?_
          clear hK K hHeld6 hb7 hx6
          try simp only [Act.put, List.getElem_toArray, List.getElem_cons_succ, List.getElem_cons_zero, List.setIfInBounds_toArray, List.set_cons_succ, List.set_cons_zero]
          obtain ⟨qn, hqn⟩ : ∃ q, Dg.B (Dg.quoteL (Dg.L x.north)) = q := ⟨_, rfl⟩
          obtain ⟨qs, hqs⟩ : ∃ q, Dg.B (Dg.quoteL (Dg.L x.south)) = q := ⟨_, rfl⟩
          rw [hqn, hqs]
          have HQN := hide hqn; have HQS := hide hqs
          clear hqn hqs
          refine wpAnyL_one (i := 7) (by decide +kernel) (by rfl) (fun K hK => ?_)
          rw [if_pos (by rfl)]
          go_simp
          have hn8 := Below.news (Below.refl u7.heap.size u7) (.cells #[.string qn, .string qs] 9)
          have hx8 := bnext hx7 hn8
          have hHeld8 : (fun X_ : World => X_.heap[w.heap.size + 1]? = some (.cells #[.string ⟨#[97, 114, 116, 105, 99, 108, 101]⟩, .string x.id, .string P, .string Q] 9 (0, 0)) ∧ X_.heap[w.heap.size]? = some (.cells #[.int .i64 x.kind, .string x.id, .string x.parent, .string x.number, .string x.north, .string x.south, .bool x.gone] 31 (0, 0))) (u7.alloc (.cells #[.string qn, .string qs] 9)) := ⟨iNext hHeld7.1 hn8, iNext hHeld7.2 hn8⟩
          refine hK.out _ _ (Or.inr hHeld8) ?_
          clear hK K hHeld7 hn8
          try simp only [Act.put, List.getElem_toArray, List.getElem_cons_succ, List.getElem_cons_zero, List.setIfInBounds_toArray, List.set_cons_succ, List.set_cons_zero]
          refine wpAnyL_one (i := 8) (by decide +kernel) (by rfl) (fun K hK => ?_)
          rw [if_pos (by rfl)]
          refine wp_ag (.tmp 38) (.tmp 45) (by rfl) w.heap.size _ [⟨#[97, 114, 116, 105, 99, 108, 101]⟩, x.id, P, Q] [qn, qs] (by rfl) (own_row4 (Nat.le_succ _) hHeld8.1) ⟨u7.heap.size, 0, none⟩ 2 2 (by rfl) rfl (fun j s hj => by
            rw [addr_off, cell_of_row _ _ _ _ _ (0, 0) (heap_alloc_new u7 _), Nat.zero_add, ← Array.getElem?_toList]
            have h9 : ([qn, qs].map Value.string)[j]? = some (.string s) := by rw [List.getElem?_map, hj]; rfl
            exact h9) (by simp) hx8.size ?_
          intro v8 u8 hO8 hg8 hat8
          have hx9 := hx8.grown hg8 hx8.size (fun k hk => by cases hk; exact Nat.le_succ _)
          refine hK.out _ _ (Or.inl (by decide +kernel)) ?_
          clear hK K hHeld8 hg8 hat8 hx8 hx7
          try simp only [Act.put, List.getElem_toArray, List.getElem_cons_succ, List.getElem_cons_zero, List.setIfInBounds_toArray, List.set_cons_succ, List.set_cons_zero]
          refine wpAnyL_one (i := 9) (by decide +kernel) (by rfl) (fun K hK => ?_)
          rw [if_pos (by rfl)]
          go_simp
          refine hK.out _ _ (Or.inl (by decide +kernel)) ?_
          clear hK K
          try simp only [Act.put, List.getElem_toArray, List.getElem_cons_succ, List.getElem_cons_zero, List.setIfInBounds_toArray, List.set_cons_succ, List.set_cons_zero]
          obtain ⟨A8, c8, e8, hc8, hS8⟩ := hO8.strs
          subst e8
          obtain ⟨g8, off8, rfl, hg8, hcell8⟩ := hS8.at_ (by simp)
          clear hO8 hS8
          refine wpAnyL_done (by decide +kernel) ?_ _
          refine NoPanic.normal ?_
          go_wp2_with fail
          have hJ : Lib.join (([⟨#[97, 114, 116, 105, 99, 108, 101]⟩, x.id, P, Q, qn, qs] : List ByteArray).map (·.data.toList)) (⟨#[32]⟩ : ByteArray).data.toList = Dg.joinW (Dg.wordsI x) := by
            rw [show (⟨#[32]⟩ : ByteArray).data.toList = [32] from rfl, join_words]
            refine congrArg Dg.joinW ?_
            unfold Dg.wordsI
            rw [if_neg (show ¬ x.kind = 1 by rw [kz]; decide), if_neg (show ¬ x.gone = true by rw [hgo]; decide)]
            rw [← L_orS, ← L_orS, ← HP.out, ← HQ.out]
            rw [← HQN.out, ← HQS.out]
            rfl
          have hjl : (Dg.lineL x).length = (Dg.joinW (Dg.wordsI x)).length + 1 := by unfold Dg.lineL; rw [List.length_append, List.length_singleton]
          have hjz : (Lib.join (([⟨#[97, 114, 116, 105, 99, 108, 101]⟩, x.id, P, Q, qn, qs] : List ByteArray).map (·.data.toList)) (⟨#[32]⟩ : ByteArray).data.toList).length ≤ 140737488355328 := by
            have := HLEN.out
            rw [hJ]; omega
          refine (Tryz.strings_Join g8 off8 c8 [⟨#[97, 114, 116, 105, 99, 108, 101]⟩, x.id, P, Q, qn, qs] ⟨#[32]⟩ u8 hcell8 hg8 (by simp) hc8 hjz).mono ?_
          rintro e u7 ⟨rfl, hb7⟩
          obtain ⟨JW, hJW⟩ : ∃ JW : ByteArray, (⟨(Lib.join (([⟨#[97, 114, 116, 105, 99, 108, 101]⟩, x.id, P, Q, qn, qs] : List ByteArray).map (·.data.toList)) (⟨#[32]⟩ : ByteArray).data.toList).toArray⟩ : ByteArray) = JW := ⟨_, rfl⟩
          rw [hJW]
          have hJL : Dg.L JW = Dg.joinW (Dg.wordsI x) := by rw [← hJW, ← hJ]; rfl
          have hJS : JW.size + 1 = (Dg.lineL x).length := by rw [← Dg.len_L, hJL, hjl]
          clear hJW hJ hjl hjz
          have HJL := hide hJL
          clear hJL
          have hb8 := bnext hx9 hb7
          have hJSz : JW.size ≤ 2199023255552 := by have := HLEN.out; omega
          have HJS := hide hJS
          clear hJS
          go_wp2_with fail
          have hw1 := HB.out.next hb8
          have hw2 := bw_len HLEN.out HJS.out
          have hw3 := Nat.le_trans hn hb8.size
          have hw := bwrite_any bb n0 hbb (JW ++ ⟨#[10]⟩) v l u7 hw1 hw2 hw3
          refine hw.mono ?_
          clear hw hw1 hw2 hw3
          rintro e u8 ⟨⟨rr, rfl⟩, hstep⟩
          rw [L_app, HJL.out, show Dg.joinW (Dg.wordsI x) ++ Dg.L ⟨#[10]⟩ = Dg.lineL x from rfl, HR.out] at hstep
          go_wp2
          go_end0
          exact ⟨rfl, hstep.after hb8⟩
end Go.Proofs.YtpldhempbdionaaGreatDoor
/- The visit of package code's Text. No conditions but those that each theorem states. -/
namespace Go.Proofs.YtpldhempbdionaaGreatDoor
open Go Go.RowKit Go.Sort Go.Maps
set_option maxRecDepth 100000 in
set_option maxHeartbeats 8000000 in
theorem text2_any (l : List Dg.It) (AI : Option Addr) (n c : Nat) (hl : l.length = n) (B0 bb n0 b5 b2 : Nat) (hbb : bb < n0) (k : Nat) (hk : k < l.length) (W : World) (hI : Its W B0 AI l) (hkd : l[k].kind = 1 ∨ l[k].kind = 2) (hz : ∀ s ∈ Dg.fieldsI l[k], s.size ≤ 1073741824)
    (r5 : W.heap[b5]? = some (.cells #[.func (.func 49) #[] #[.pointer (some ⟨bb, 0, none⟩)]] 75 (0, 0))) (r2 : W.heap[b2]? = some (.cells #[.slice AI n c] 24 (0, 0))) (v : Value) (L : List UInt8) (hB : BldAt bb n0 W v L) (hlen : L.length + (Dg.lineL l[k]).length ≤ 2199023255552) (hn0 : n0 ≤ W.heap.size) (A : Option Addr) (m co : Nat) :
    Calls Tryz.prog 53 #[.int .i64 (k : Int), .slice A m co, .pointer (some ⟨b5, 0, none⟩), .pointer (some ⟨b2, 0, none⟩)] W fun e W' => e = .returned (.tuple #[]) ∧ BldStep bb n0 W W' v (L ++ Dg.lineL l[k]) := by
  obtain ⟨b, off, rfl⟩ := hI.some hk
  obtain ⟨x, hx⟩ : ∃ x, l[k] = x := ⟨_, rfl⟩
  rw [hx] at hkd hz hlen ⊢
  have HZ := hide hz; have HX := hide hx; have HKD := hide hkd; have HLEN := hide hlen
  clear hz hx hkd hlen
  have hidx : (k : Int) < (n : Int) := by omega
  have hk0 : (0 : Int) ≤ (k : Int) := by omega
  have en : ∀ args w, (callFunc 49 args).run Tryz.prog w = .ok (.enter 49 args) w := enters_of Tryz.func49 (by kernel_rfl) rfl
  go_enter Tryz.func53, Tryz.ntmps53
  go_upto_region 0 with (fail)
  have hmx : Tryz.prog.follows .mixedOrders = true := by kernel_rfl
  refine wp_region_noPanic ?_
  refine wp_region_L (fun X_ : World => X_.heap[b5]? = some (.cells #[.func (.func 49) #[] #[.pointer (some ⟨bb, 0, none⟩)]] 75 (0, 0)) ∧ X_.heap[b2]? = some (.cells #[.slice (some ⟨b, off, none⟩) n c] 24 (0, 0)) ∧ Its X_ B0 (some ⟨b, off, none⟩) l) 6 hmx ?_
  have hHeld : (fun X_ : World => X_.heap[b5]? = some (.cells #[.func (.func 49) #[] #[.pointer (some ⟨bb, 0, none⟩)]] 75 (0, 0)) ∧ X_.heap[b2]? = some (.cells #[.slice (some ⟨b, off, none⟩) n c] 24 (0, 0)) ∧ Its X_ B0 (some ⟨b, off, none⟩) l) W.drew := ⟨r5, r2, hI.below (Below.refl B0 W).drew⟩
  have hBd : BldAt bb n0 W.drew v L := hB.next (Below.refl W.heap.size W).drew
  have hbd : Below W.heap.size W W.drew := (Below.refl W.heap.size W).drew
  have hnd : n0 ≤ W.drew.heap.size := Nat.le_trans hn0 hbd.size
  generalize W.drew = u0 at *
  clear r5 r2 hI hB
  refine wpAnyL_take (i := 0) (f0 := 12) (v := ?_) rfl (by decide +kernel) (by decide +kernel) (by decide +kernel) (by decide +kernel) (by decide +kernel) (fun _ _ _ h => h) (Or.inl ⟨by rfl, ?_⟩) hHeld ?_
  rotate_left
  · intro wS hS; obtain ⟨hS1, hS2, hS3⟩ := hS; have c9 := iCells0 hS1; go_simp; (try with_reducible rfl)
  simp only [Act.put, List.getElem_toArray, List.getElem_cons_succ, List.getElem_cons_zero, List.setIfInBounds_toArray, List.set_cons_succ, List.set_cons_zero]
  refine wpAnyL_take (i := 1) (f0 := 12) (v := ?_) rfl (by decide +kernel) (by decide +kernel) (by decide +kernel) (by decide +kernel) (by decide +kernel) (fun _ _ _ h => h) (Or.inl ⟨by rfl, ?_⟩) hHeld ?_
  rotate_left
  · intro wS hS; obtain ⟨hS1, hS2, hS3⟩ := hS; go_simp; (try with_reducible rfl)
  simp only [Act.put, List.getElem_toArray, List.getElem_cons_succ, List.getElem_cons_zero, List.setIfInBounds_toArray, List.set_cons_succ, List.set_cons_zero]
  refine wpAnyL_take (i := 2) (f0 := 12) (v := ?_) rfl (by decide +kernel) (by decide +kernel) (by decide +kernel) (by decide +kernel) (by decide +kernel) (fun _ _ _ h => h) (Or.inl ⟨by rfl, ?_⟩) hHeld ?_
  rotate_left
  · intro wS hS; obtain ⟨hS1, hS2, hS3⟩ := hS; have c9 := iCells0 hS2; go_simp; (try with_reducible rfl)
  simp only [Act.put, List.getElem_toArray, List.getElem_cons_succ, List.getElem_cons_zero, List.setIfInBounds_toArray, List.set_cons_succ, List.set_cons_zero]
  refine wpAnyL_take (i := 3) (f0 := 12) (v := ?_) rfl (by decide +kernel) (by decide +kernel) (by decide +kernel) (by decide +kernel) (by decide +kernel) (fun _ _ _ h => h) (Or.inl ⟨by rfl, ?_⟩) hHeld ?_
  rotate_left
  · intro wS hS; obtain ⟨hS1, hS2, hS3⟩ := hS; go_simp; (try with_reducible rfl)
  simp only [Act.put, List.getElem_toArray, List.getElem_cons_succ, List.getElem_cons_zero, List.setIfInBounds_toArray, List.set_cons_succ, List.set_cons_zero]
  refine wpAnyL_take (i := 4) (f0 := 12) (v := ?_) rfl (by decide +kernel) (by decide +kernel) (by decide +kernel) (by decide +kernel) (by decide +kernel) (fun _ _ _ h => h) (Or.inl ⟨by rfl, ?_⟩) hHeld ?_
  rotate_left
  · intro wS hS; obtain ⟨hS1, hS2, hS3⟩ := hS; go_simp; (try with_reducible rfl)
  simp only [Act.put, List.getElem_toArray, List.getElem_cons_succ, List.getElem_cons_zero, List.setIfInBounds_toArray, List.set_cons_succ, List.set_cons_zero]
  refine wpAnyL_take (i := 5) (f0 := 12) (v := ?_) rfl (by decide +kernel) (by decide +kernel) (by decide +kernel) (by decide +kernel) (by decide +kernel) (fun _ _ _ h => h) (Or.inl ⟨by rfl, ?_⟩) hHeld ?_
  rotate_left
  · intro wS hS; obtain ⟨hS1, hS2, hS3⟩ := hS; obtain ⟨hbl, p0, p1, p2, p3, p4, p5, p6⟩ := hS3.cells hk x HX.out; go_simp; (try with_reducible rfl)
  simp only [Act.put, List.getElem_toArray, List.getElem_cons_succ, List.getElem_cons_zero, List.setIfInBounds_toArray, List.set_cons_succ, List.set_cons_zero]
  refine wpAnyL_one (i := 6) (by decide +kernel) (by rfl) (fun K hK => ?_)
  rw [if_pos (by rfl)]
  go_simp
  have hc := text1_any x HKD.out HZ.out bb n0 hbb v L u0 hBd HLEN.out hnd _ rfl
  refine hc.mono ?_
  clear hc
  rintro e u6 ⟨rfl, hstep⟩
  refine hK.out _ _ (Or.inl (by decide +kernel)) ?_
  clear hK K hHeld
  try simp only [Act.put, List.getElem_toArray, List.getElem_cons_succ, List.getElem_cons_zero, List.setIfInBounds_toArray, List.set_cons_succ, List.set_cons_zero]
  refine wpAnyL_done (by decide +kernel) ?_ _
  refine NoPanic.normal ?_
  have HS := hide (hstep.after hbd)
  clear hstep hBd
  go_wp2
  go_end0
  exact ⟨rfl, HS.out⟩
end Go.Proofs.YtpldhempbdionaaGreatDoor
/- Text of package code. No conditions but those that each theorem states. -/
namespace Go.Proofs.YtpldhempbdionaaGreatDoor
open Go Go.RowKit Go.Sort Go.Maps
theorem OwnB.weak {w : World} {B B' : Nat} {v : Value} {l : List UInt8} (h : OwnB w B v l) (hB : B' ≤ B) : OwnB w B' v l := by
  obtain ⟨h1, h2⟩ := h
  refine ⟨h1, ?_⟩
  rcases h2 with h2 | ⟨g, cap, cur, hv, hg, r⟩
  · exact Or.inl h2
  · exact Or.inr ⟨g, cap, cur, hv, Nat.le_trans hB hg, r⟩
theorem BldAt.is {bb n0 : Nat} {W : World} {v : Value} {l : List UInt8} (h : BldAt bb n0 W v l) (hb : bb < n0) : Lib.IsBuilder 69 5 bb bb (Lib.byteCells l) W := by
  obtain ⟨p, hp, hr⟩ := h.row
  have hO : W.ownsRow bb 5 1 v (Lib.byteCells l).length (Lib.byteCells l) := by
    have := h.own.weak (Nat.le_of_lt hb)
    rw [show (Lib.byteCells l).length = l.length by simp [Lib.byteCells]]
    exact this
  have hne : v.ownBlock ≠ some bb := fun e => by have := (h.own.lt e).1; omega
  rcases hp with rfl | rfl
  · exact Or.inl ⟨Nat.le_refl _, v, hr, hO, hne⟩
  · exact Or.inr ⟨Nat.le_refl _, v, hr, hO, hne⟩
theorem bld_visit {l : List Dg.It} {F : Nat} {lb : Array Value} {B0 n0 bo : Nat} (hb0 : B0 ≤ bo) (hbn : bo < n0) (Low : World → Prop) (hLow : ∀ W W', Low W → (∀ g, g < n0 → g ≠ bo → W'.heap[g]? = W.heap[g]?) → Low W') (f : List (List ByteArray) → List UInt8)
    (en : ∀ args w, (callFunc F args).run Tryz.prog w = .ok (.enter F args) w)
    (hc : ∀ (k : Nat) (W : World) (v : Value) (o : List ByteArray) (A : Option Addr) (c : Nat) (vs : List (List ByteArray)) (s : Dg.Wk), k < l.length → Low W → BldAt bo n0 W v (f vs) → n0 ≤ W.heap.size → Dg.walkTo l (k + 1) = some (vs ++ [o], s) → vs.length = k → Strs W W.heap.size A o → o.length ≤ c →
      Calls Tryz.prog F (#[.int .i64 (k : Int), .slice A o.length c] ++ lb) W fun e W' => e = .returned (.tuple #[]) ∧ BldStep bo n0 W W' v (f (vs ++ [o]))) :
    Visit l F lb B0 n0 (fun k S W => ∃ v vs s, S = outS bo v ∧ BldAt bo n0 W v (f vs) ∧ Dg.walkTo l k = some (vs, s) ∧ Low W) where
  enters := en
  stable := fun k S W W' h hS hb => by
    obtain ⟨v, vs, s, rfl, h1, h2, h3⟩ := h
    exact ⟨v, vs, s, rfl, h1.same hS, h2, hLow W W' h3 fun g hg _ => hb.block g hg⟩
  lt := fun k S W h g hg => by
    obtain ⟨v, vs, s, rfl, h1, h2, h3⟩ := h
    rcases mem_outS hg with rfl | e
    · obtain ⟨p, _, hr⟩ := h1.row
      exact ⟨hb0, lt_of_block hr⟩
    · have := h1.own.lt e
      omega
  call := fun k S W o A c vs s hk h hw hvl hS hoc hn => by
    obtain ⟨v, vs0, s0, rfl, h1, h2, h3⟩ := h
    obtain ⟨vs1, s1, o1, e1, _, e2⟩ := Dg.walk_step hk hw
    rw [h2] at e1
    cases e1
    obtain ⟨rfl, e3⟩ := List.append_inj' e2 rfl
    refine (hc k W v o A c vs s hk h3 h1 hn hw hvl hS hoc).mono ?_
    rintro e W' ⟨rfl, v', h4, h5, h6⟩
    refine ⟨rfl, outS bo v', ⟨v', vs ++ [o], s, rfl, h4, hw, hLow W W' h3 fun g hg hgb => h5.block g (by omega) fun hm => ?_⟩, h5, fun g hg => ?_⟩
    · rcases mem_outS hm with e | e
      · exact hgb e
      · have := (h1.own.lt e).1
        omega
    · rcases mem_outS hg with rfl | e
      · exact Or.inl (List.mem_cons_self ..)
      · exact (h6 g e).imp outS_own id
/-- The walk, when its visits write a builder. -/
theorem bld_walk {F : Nat} {lb : Array Value} (l : List Dg.It) (A : Option Addr) (n c : Nat) (hl : l.length = n) (hw : ∀ x ∈ l, ItW x) (hn : n ≤ 1048576) (B0 bo : Nat) (w : World) (hI : Its w B0 A l) (hB : B0 ≤ bo) (hbo : bo < w.heap.size) (Low : World → Prop) (hLow : ∀ W W', Low W → (∀ g, g < w.heap.size → g ≠ bo → W'.heap[g]? = W.heap[g]?) → Low W') (f : List (List ByteArray) → List UInt8)
    (en : ∀ args w, (callFunc F args).run Tryz.prog w = .ok (.enter F args) w)
    (hc : ∀ (k : Nat) (W : World) (v : Value) (o : List ByteArray) (A : Option Addr) (c : Nat) (vs : List (List ByteArray)) (s : Dg.Wk), k < l.length → Low W → BldAt bo w.heap.size W v (f vs) → w.heap.size ≤ W.heap.size → Dg.walkTo l (k + 1) = some (vs ++ [o], s) → vs.length = k → Strs W W.heap.size A o → o.length ≤ c →
      Calls Tryz.prog F (#[.int .i64 (k : Int), .slice A o.length c] ++ lb) W fun e W' => e = .returned (.tuple #[]) ∧ BldStep bo w.heap.size W W' v (f (vs ++ [o])))
    (h0 : BldAt bo w.heap.size w (.slice none 0 0) (f [])) (hl0 : Low w) (R : Bool) (hR : Dg.validC l = R) :
    Calls Tryz.prog 35 #[.agg #[.slice A n c], .func (.func F) #[] lb] w fun e w' => e = .returned (.bool R) ∧ ∃ v L, (R = true → L = f (Dg.visits l)) ∧ BldAt bo w.heap.size w' v L ∧ Low w' ∧ Below bo w w' ∧ w.heap.size ≤ w'.heap.size := by
  refine (walk_any l A n c hl hw hn B0 w hI (by omega) F lb _ (bld_visit hB hbo Low hLow f en hc) [bo] ⟨.slice none 0 0, [], ⟨[], []⟩, rfl, h0, rfl, hl0⟩ R hR).mono ?_
  rintro e w' ⟨rfl, k, S, hk, ⟨v, vs, s, rfl, h1, h2, h3⟩, ho, _⟩
  refine ⟨rfl, v, f vs, fun hr => ?_, h1, h3, ho.below (by omega) (fun g hg => by rw [List.mem_singleton.1 hg]; exact Nat.le_refl _), ho.size⟩
  have := hk hr
  subst this
  rw [hr] at hR
  obtain ⟨s', h4, _⟩ := Dg.valid_walk hR
  rw [hl] at h4
  rw [h2] at h4
  cases h4
  rfl
theorem line_len2 (x : Dg.It) (hx : ∀ s ∈ Dg.fieldsI x, s.size ≤ 10000) : (Dg.lineL x).length ≤ 120100 := by
  have h1 := hx x.id (by unfold Dg.fieldsI; simp)
  have h2 := hx x.parent (by unfold Dg.fieldsI; simp)
  have h3 := hx x.number (by unfold Dg.fieldsI; simp)
  have h4 := hx x.north (by unfold Dg.fieldsI; simp)
  have h5 := hx x.south (by unfold Dg.fieldsI; simp)
  have ho : ∀ s : ByteArray, s.size ≤ 10000 → (Dg.orL (Dg.L s)).length ≤ 20002 := fun s hs => by
    unfold Dg.orL
    split
    · decide
    · rw [Dg.len_L]; omega
  have hq : ∀ s : ByteArray, s.size ≤ 10000 → (Dg.quoteL (Dg.L s)).length ≤ 20002 := fun s hs => by
    unfold Dg.quoteL
    have := Dg.escL_len (Dg.L s)
    rw [Dg.len_L] at this
    rw [List.length_cons, List.length_append, List.length_singleton]
    omega
  have hi : (Dg.L x.id).length ≤ 20002 := by rw [Dg.len_L]; omega
  unfold Dg.lineL
  rw [List.length_append, List.length_singleton]
  have hw : ∀ w ∈ Dg.wordsI x, w.length ≤ 20002 := fun w hw => by
    unfold Dg.wordsI at hw
    split at hw
    · simp only [List.mem_cons, List.not_mem_nil, or_false] at hw
      rcases hw with rfl | rfl | rfl | rfl
      · decide
      · exact hi
      · exact ho _ h2
      · exact ho _ h3
    · simp only [List.mem_cons, List.not_mem_nil, or_false] at hw
      rcases hw with rfl | rfl | rfl | rfl | rfl | rfl
      · split <;> decide
      · exact hi
      · exact ho _ h2
      · exact ho _ h3
      · exact hq _ h4
      · exact hq _ h5
  have hl : (Dg.wordsI x).length ≤ 6 := by unfold Dg.wordsI; split <;> simp
  have := Dg.joinW_len (Dg.wordsI x) 20002 hw
  have : (Dg.wordsI x).length * (20002 + 1) ≤ 6 * (20002 + 1) := Nat.mul_le_mul_right _ hl
  omega
theorem text_len2 : ∀ (l : List Dg.It), (∀ x ∈ l, ∀ s ∈ Dg.fieldsI x, s.size ≤ 10000) → (Dg.textL l).length ≤ l.length * 120100
  | [], _ => Nat.zero_le _
  | x :: l, h => by
    have h1 := line_len2 x (h x (List.mem_cons_self ..))
    have h2 := text_len2 l (fun y hy => h y (List.mem_cons_of_mem _ hy))
    have e : Dg.textL (x :: l) = Dg.lineL x ++ Dg.textL l := by unfold Dg.textL; rw [List.flatMap_cons]
    rw [e, List.length_append, List.length_cons, Nat.add_mul]
    omega
theorem textL_snoc (l : List Dg.It) (k : Nat) (hk : k < l.length) : Dg.textL (l.take (k + 1)) = Dg.textL (l.take k) ++ Dg.lineL l[k] := by
  unfold Dg.textL
  rw [List.take_succ_eq_append_getElem hk, List.flatMap_append]
  simp
theorem textL_room (l : List Dg.It) (k n : Nat) (hl : l.length = n) (hn : n ≤ 10000) (hz : ∀ x ∈ l, ∀ s ∈ Dg.fieldsI x, s.size ≤ 10000) (hk : k < l.length) : (Dg.textL (l.take k)).length + (Dg.lineL l[k]).length ≤ 2199023255552 := by
  have h1 := line_len2 _ (hz _ (List.getElem_mem hk))
  have h2 := text_len2 (l.take k) (fun x hx => hz x (List.mem_of_mem_take hx))
  have h3 : (l.take k).length ≤ 10000 := by rw [List.length_take]; omega
  have h4 : (l.take k).length * 120100 ≤ 10000 * 120100 := Nat.mul_le_mul_right _ h3
  omega
theorem fields_small {x : Dg.It} (h : ∀ s ∈ Dg.fieldsI x, s.size ≤ 10000) : ∀ s ∈ Dg.fieldsI x, s.size ≤ 1073741824 := fun s hs => Nat.le_trans (h s hs) (by decide)
set_option maxRecDepth 100000 in
set_option maxHeartbeats 8000000 in
theorem Code.text_of (l : List Dg.It) (A : Option Addr) (n c : Nat) (hl : l.length = n) (hw : ∀ x ∈ l, ItW x) (hn : n ≤ 10000) (w : World) (hI : Its w w.heap.size A l) (hz : ∀ x ∈ l, ∀ s ∈ Dg.fieldsI x, s.size ≤ 10000) (S : ByteArray) (E : Int) (hS : Dg.textC l = (S, E)) :
    Calls Tryz.prog 22 #[.agg #[.slice A n c]] w fun e w' => e = .returned (.tuple #[.string S, .int .i64 E]) ∧ Below w.heap.size w w' := by
  obtain ⟨r2, rb, rf, hb, hs⟩ := iAlloc3 w (.cells #[.slice A n c] 24) (.cells #[.pointer none, .slice none 0 0] 69) (.cells #[.func (.func 49) #[] #[.pointer (some ⟨w.heap.size + 1, 0, none⟩)]] 75)
  have hmf : ∀ (fn : Fn) (first cap : Array Value) (w : World), (Instr.makeFunc fn first cap).run Tryz.prog w = .ok (.func fn first cap) w := fun _ _ _ _ => rfl
  have HI := hide hI; have HW := hide hw; have HL := hide hl; have HQ := hide hS; have HZ := hide hz
  clear hI hw hl hS hz
  go_enter Tryz.func22, Tryz.ntmps22
  go_wp2_with fail
  obtain ⟨R, hR⟩ : ∃ R, Dg.validC l = R := ⟨_, rfl⟩
  generalize ((w.alloc (.cells #[.slice A n c] 24)).alloc (.cells #[.pointer none, .slice none 0 0] 69)).alloc (.cells #[.func (.func 49) #[] #[.pointer (some ⟨w.heap.size + 1, 0, none⟩)]] 75) = W1 at *
  refine (bld_walk l A n c HL.out HW.out (by omega) w.heap.size (w.heap.size + 1) W1 (HI.out.below hb) (by omega) (by omega) (fun W => W.heap[w.heap.size]? = some (.cells #[.slice A n c] 24 (0, 0)) ∧ W.heap[w.heap.size + 1 + 1]? = some (.cells #[.func (.func 49) #[] #[.pointer (some ⟨w.heap.size + 1, 0, none⟩)]] 75 (0, 0)) ∧ Its W w.heap.size A l)
    (fun W W' h hg => ⟨(hg _ (by omega) (by omega)).trans h.1, (hg _ (by omega) (by omega)).trans h.2.1, h.2.2.same fun g hg' => hg g (by omega) (by omega)⟩) (fun vs => Dg.textL (l.take vs.length)) (enters_of Tryz.func53 (by kernel_rfl) rfl)
    (fun k W v o A' c' vs s hk hlow hO hn0 hwt hvl hS hoc => by
      subst hvl
      have h1 := text2_any l A n c HL.out w.heap.size (w.heap.size + 1) W1.heap.size (w.heap.size + 1 + 1) w.heap.size (by omega) vs.length hk W hlow.2.2 (visit_kind hk hwt) (fields_small (HZ.out _ (List.getElem_mem hk))) hlow.2.1 hlow.1 v _ hO (textL_room l vs.length n HL.out hn HZ.out hk) hn0 A' o.length c'
      rw [← textL_snoc l vs.length hk] at h1
      rw [List.length_append, List.length_singleton]
      exact h1)
    ⟨⟨.pointer none, Or.inl rfl, rb⟩, World.ownsRow_nil _ _ _ _⟩ ⟨r2, rf, HI.out.below hb⟩ R hR).mono ?_
  rintro e w2 ⟨rfl, v, L', hL', hO2, _, hb2, hsz2⟩
  have hb' : Below w.heap.size w w2 := hb.trans (hb2.mono (by omega))
  have hq := HQ.out
  unfold Dg.textC at hq
  rw [hR] at hq
  have HLL := hide hL'
  have hv := hide hR
  have HO2 := hide hO2
  have hnb : Hid (w.heap.size + 1 < W1.heap.size) := by have := hs; show _ < _; omega
  have hnw : Hid (w.heap.size + 1 ≤ w2.heap.size) := by have := hs; show _ ≤ _; omega
  clear hL' hb hb2 r2 rb rf hO2 hR HQ hmf hs hsz2
  cases R with
  | false =>
    rw [if_neg Bool.false_ne_true] at hq
    cases hq
    go_wp2
    go_ret2
    exact ⟨rfl, hb'⟩
  | true =>
    rw [if_pos rfl] at hq
    have e9 := HLL.out rfl
    rw [visits_le l hv.out, List.take_length] at e9
    subst e9
    have HQ2 := hide hq
    clear hq HLL
    go_wp2_with fail
    have hlen := Tryz.Builder_Len (w.heap.size + 1) (w.heap.size + 1) _ w2 (HO2.out.is hnb.out)
    rw [show (Lib.byteCells (Dg.textL l)).length = (Dg.textL l).length by simp [Lib.byteCells]] at hlen
    obtain ⟨N, hN⟩ : ∃ N, (Dg.textL l).length = N := ⟨_, rfl⟩
    rw [hN] at hlen
    refine hlen.mono ?_
    rintro e w3 ⟨rfl, hw3⟩
    subst hw3
    clear hlen
    have HN := hide hN
    clear hN
    have hq2 := HQ2.out
    rw [HN.out] at hq2
    by_cases hbig : 1000000 < N
    · rw [if_pos hbig] at hq2
      cases hq2
      have hbi : (1000000 : Int) < (N : Int) := by omega
      clear HQ2
      go_wp2
      go_ret2
      exact ⟨rfl, hb'⟩
    · rw [if_neg hbig] at hq2
      have hq3 := hide hq2
      have hbi : ¬ (1000000 : Int) < (N : Int) := by omega
      clear HQ2 hq2
      go_wp2_with fail
      have hstr := Tryz.Builder_String_any (w.heap.size + 1) (w.heap.size + 1) _ w3 (HO2.out.is hnb.out) hnw.out
      refine hstr.mono ?_
      rintro e w4 ⟨rfl, hb4⟩
      clear hstr
      have hq4 := hq3.out
      obtain ⟨T, hT⟩ : ∃ T : ByteArray, (⟨(Dg.textL l).toArray⟩ : ByteArray) = T := ⟨_, rfl⟩
      rw [show Dg.B (Dg.textL l) = T from hT] at hq4
      rw [hT]
      cases hq4
      have hb5 : Below w.heap.size w w4 := hb'.trans (hb4.mono (by omega))
      clear hT hq3
      go_wp2
      go_ret2
      exact ⟨rfl, hb5⟩
end Go.Proofs.YtpldhempbdionaaGreatDoor
/- The laws' sample of a code. No conditions but those that each theorem states. -/
namespace Go.Proofs.YtpldhempbdionaaGreatDoor
open Go Go.RowKit Go.Sort Go.Maps
def smp : List Dg.It := [⟨1, ⟨#[100, 49]⟩, ⟨#[]⟩, ⟨#[49]⟩, ⟨#[]⟩, ⟨#[]⟩, false⟩, ⟨2, ⟨#[112, 49]⟩, ⟨#[100, 49]⟩, ⟨#[50]⟩, ⟨#[120]⟩, ⟨#[121]⟩, false⟩, ⟨1, ⟨#[100, 50]⟩, ⟨#[100, 49]⟩, ⟨#[]⟩, ⟨#[]⟩, ⟨#[]⟩, false⟩, ⟨2, ⟨#[112, 50]⟩, ⟨#[100, 50]⟩, ⟨#[]⟩, ⟨#[]⟩, ⟨#[]⟩, true⟩, ⟨2, ⟨#[112, 51]⟩, ⟨#[100, 49]⟩, ⟨#[]⟩, ⟨#[]⟩, ⟨#[]⟩, false⟩, ⟨2, ⟨#[112, 52]⟩, ⟨#[]⟩, ⟨#[]⟩, ⟨#[]⟩, ⟨#[]⟩, false⟩]
def smpX : Dg.It := ⟨2, ⟨#[112, 53]⟩, ⟨#[100, 49]⟩, ⟨#[]⟩, ⟨#[]⟩, ⟨#[]⟩, false⟩
def smpT : ByteArray := ⟨([100, 105, 118, 105, 115, 105, 111, 110, 32, 100, 49, 32, 45, 32, 49, 10, 97, 114, 116, 105, 99, 108, 101, 32, 112, 49, 32, 100, 49, 32, 50, 32, 34, 120, 34, 32, 34, 121, 34, 10, 100, 105, 118, 105, 115, 105, 111, 110, 32, 100, 50, 32, 100, 49, 32, 45, 10, 114, 101, 112, 101, 97, 108, 101, 100, 32, 112, 50, 32, 100, 50, 32, 45, 32, 34, 34, 32, 34, 34, 10, 97, 114, 116, 105, 99, 108, 101, 32, 112, 51, 32, 100, 49, 32, 45, 32, 34, 34, 32, 34, 34, 10, 97, 114, 116, 105, 99, 108, 101, 32, 112, 52, 32, 45, 32, 45, 32, 34, 34, 32, 34, 34, 10] : List UInt8).toArray⟩
theorem smp_valid : Dg.validC smp = true := by decide +kernel
theorem smp_bad : Dg.validC (smp ++ [smpX]) = false := by decide +kernel
theorem smp_text : Dg.textC smp = (smpT, 0) := by decide +kernel
theorem smp_below : belowC smp ⟨#[100, 49]⟩ = [⟨#[112, 49]⟩, ⟨#[100, 50]⟩, ⟨#[112, 50]⟩, ⟨#[112, 51]⟩] := by decide +kernel
theorem smp_leaves : (Dg.leavesC smp).length = 5 := by decide +kernel
theorem smp_leaf : (Dg.leavesC smp)[1]? = some ⟨#[49, 58, 97, 50, 58, 112, 49, 50, 58, 100, 49, 49, 58, 120, 49, 58, 121]⟩ := by decide +kernel
theorem smp_under : underC smp ⟨#[112, 50]⟩ ⟨#[100, 49]⟩ = true := by decide +kernel
theorem smp_not : underC smp ⟨#[112, 52]⟩ ⟨#[100, 49]⟩ = false := by decide +kernel
theorem smp_find : findX smp ⟨#[112, 51]⟩ = 4 := by decide +kernel
theorem smp_digest : Dg.isB (Dg.digestC smp) = true := by decide +kernel
theorem smp_dsize : (Dg.digestC smp).size ≤ 1000 := by decide +kernel
theorem smp_w : ∀ x ∈ smp ++ [smpX], ItW x := by
  have h : ∀ x ∈ smp ++ [smpX], (0 ≤ x.kind ∧ x.kind ≤ 2) ∧ x.id.size ≤ 2 ∧ x.parent.size ≤ 2 ∧ x.number.size ≤ 2 ∧ x.north.size ≤ 2 ∧ x.south.size ≤ 2 := by decide +kernel
  intro x hx
  obtain ⟨⟨h0, h1⟩, h2, h3, h4, h5, h6⟩ := h x hx
  exact ⟨by omega, by omega, by omega, by omega, by omega, by omega, by omega⟩
theorem smp_fields : ∀ x ∈ smp, ∀ s ∈ Dg.fieldsI x, s.size ≤ 100 := by decide +kernel
set_option maxRecDepth 100000 in
set_option maxHeartbeats 8000000 in
theorem sample_of (w : World) :
    Calls Tryz.prog 33 #[] w fun e w' => ∃ b, e = .returned (.agg #[.slice (some ⟨b, 0, none⟩) 6 6]) ∧ Its w' w'.heap.size (some ⟨b, 0, none⟩) smp ∧ Below w.heap.size w w' := by
  go_enter Tryz.func33, Tryz.ntmps33
  go_wp2
  have hs1 : (w.alloc (.cells #[.slice (some ⟨w.heap.size + 1, 0, none⟩) 6 6] 24)).heap.size = w.heap.size + 1 := by simp
  have hx1 := Below.news (Below.refl w.heap.size w) (.cells #[.slice (some ⟨w.heap.size + 1, 0, none⟩) 6 6] 24)
  have hr1 := heap_alloc_new w (.cells #[.slice (some ⟨w.heap.size + 1, 0, none⟩) 6 6] 24)
  generalize w.alloc (.cells #[.slice (some ⟨w.heap.size + 1, 0, none⟩) 6 6] 24) = W1 at *
  have hO := OwnI.lit W1 W1.heap.size (Nat.le_refl _) smp 6 rfl (by decide) #[.int .i64 1, .string ⟨#[100, 49]⟩, .string ⟨#[]⟩, .string ⟨#[49]⟩, .string ⟨#[]⟩, .string ⟨#[]⟩, .bool false, .int .i64 2, .string ⟨#[112, 49]⟩, .string ⟨#[100, 49]⟩, .string ⟨#[50]⟩, .string ⟨#[120]⟩, .string ⟨#[121]⟩, .bool false, .int .i64 1, .string ⟨#[100, 50]⟩, .string ⟨#[100, 49]⟩, .string ⟨#[]⟩, .string ⟨#[]⟩, .string ⟨#[]⟩, .bool false, .int .i64 2, .string ⟨#[112, 50]⟩, .string ⟨#[100, 50]⟩, .string ⟨#[]⟩, .string ⟨#[]⟩, .string ⟨#[]⟩, .bool true, .int .i64 2, .string ⟨#[112, 51]⟩, .string ⟨#[100, 49]⟩, .string ⟨#[]⟩, .string ⟨#[]⟩, .string ⟨#[]⟩, .bool false, .int .i64 2, .string ⟨#[112, 52]⟩, .string ⟨#[]⟩, .string ⟨#[]⟩, .string ⟨#[]⟩, .string ⟨#[]⟩, .bool false] rfl
  have hx2 := Below.news (Below.refl W1.heap.size W1) (.cells #[.int .i64 1, .string ⟨#[100, 49]⟩, .string ⟨#[]⟩, .string ⟨#[49]⟩, .string ⟨#[]⟩, .string ⟨#[]⟩, .bool false, .int .i64 2, .string ⟨#[112, 49]⟩, .string ⟨#[100, 49]⟩, .string ⟨#[50]⟩, .string ⟨#[120]⟩, .string ⟨#[121]⟩, .bool false, .int .i64 1, .string ⟨#[100, 50]⟩, .string ⟨#[100, 49]⟩, .string ⟨#[]⟩, .string ⟨#[]⟩, .string ⟨#[]⟩, .bool false, .int .i64 2, .string ⟨#[112, 50]⟩, .string ⟨#[100, 50]⟩, .string ⟨#[]⟩, .string ⟨#[]⟩, .string ⟨#[]⟩, .bool true, .int .i64 2, .string ⟨#[112, 51]⟩, .string ⟨#[100, 49]⟩, .string ⟨#[]⟩, .string ⟨#[]⟩, .string ⟨#[]⟩, .bool false, .int .i64 2, .string ⟨#[112, 52]⟩, .string ⟨#[]⟩, .string ⟨#[]⟩, .string ⟨#[]⟩, .string ⟨#[]⟩, .bool false] 31)
  have hrw := iNext hr1 hx2
  have hb := bnext hx1 hx2
  obtain ⟨A, c, e, _, hI⟩ := hO.its
  rw [hs1] at e
  cases e
  generalize W1.alloc (.cells #[.int .i64 1, .string ⟨#[100, 49]⟩, .string ⟨#[]⟩, .string ⟨#[49]⟩, .string ⟨#[]⟩, .string ⟨#[]⟩, .bool false, .int .i64 2, .string ⟨#[112, 49]⟩, .string ⟨#[100, 49]⟩, .string ⟨#[50]⟩, .string ⟨#[120]⟩, .string ⟨#[121]⟩, .bool false, .int .i64 1, .string ⟨#[100, 50]⟩, .string ⟨#[100, 49]⟩, .string ⟨#[]⟩, .string ⟨#[]⟩, .string ⟨#[]⟩, .bool false, .int .i64 2, .string ⟨#[112, 50]⟩, .string ⟨#[100, 50]⟩, .string ⟨#[]⟩, .string ⟨#[]⟩, .string ⟨#[]⟩, .bool true, .int .i64 2, .string ⟨#[112, 51]⟩, .string ⟨#[100, 49]⟩, .string ⟨#[]⟩, .string ⟨#[]⟩, .string ⟨#[]⟩, .bool false, .int .i64 2, .string ⟨#[112, 52]⟩, .string ⟨#[]⟩, .string ⟨#[]⟩, .string ⟨#[]⟩, .string ⟨#[]⟩, .bool false] 31) = W2 at *
  clear hO hx2 hx1 hr1
  refine bodyPost_ret (results_cell_row (P := Tryz.prog) Tryz.results33 _ _ w.heap.size 24 #[.slice (some ⟨w.heap.size + 1, 0, none⟩) 6 6] (0, 0) _ rfl hrw Tryz.underlying24 rfl (by kernel_rfl)) rfl ⟨_, rfl, hI, hb⟩
end Go.Proofs.YtpldhempbdionaaGreatDoor
/- head of pandectlaw18. No conditions but those that each theorem states. -/
namespace Go.Proofs.YtpldhempbdionaaGreatDoor
open Go Go.RowKit Go.Sort Go.Maps
theorem smp_w1 : ∀ x ∈ smp, ItW x := fun x hx => smp_w x (List.mem_append_left _ hx)
theorem smp_z : ∀ x ∈ smp, ∀ s ∈ Dg.fieldsI x, s.size ≤ 10000 := fun x hx s hs => Nat.le_trans (smp_fields x hx s hs) (by decide)
theorem smp_z2 : ∀ x ∈ smp, ∀ s ∈ Dg.fieldsI x, s.size ≤ 1073741824 := fun x hx s hs => Nat.le_trans (smp_fields x hx s hs) (by decide)
theorem Strs.keep2 {w w' : World} {A : Option Addr} {l : List ByteArray} (h : Strs w w.heap.size A l) (hb : Below w.heap.size w w') : Strs w' w'.heap.size A l := keepS h hb
set_option maxRecDepth 100000 in
set_option maxHeartbeats 16000000 in
theorem head_any (w : World) (he : Env w) :
    Calls Tryz.prog 9 #[] w fun e w' => e = .returned (.bool true) ∧ Below w.heap.size w w' := by
  go_enter Tryz.func9, Tryz.ntmps9
  go_wp2_with fail
  refine (sample_of w).mono ?_
  rintro e w1 ⟨b, rfl, hI1, hb1⟩
  have hn2 := Below.news (Below.refl w1.heap.size w1) (.cells #[.slice (some ⟨b, 0, none⟩) 6 6] 24)
  have hc1 := iCells0 (heap_alloc_new w1 (.cells #[.slice (some ⟨b, 0, none⟩) 6 6] 24))
  have hr1 := heap_alloc_new w1 (.cells #[.slice (some ⟨b, 0, none⟩) 6 6] 24)
  go_wp2_with fail
  have hI2 := hI1.keep hn2
  have hb2 := bnext hb1 hn2
  generalize w1.alloc (.cells #[.slice (some ⟨b, 0, none⟩) 6 6] 24) = w2 at *
  generalize w1.heap.size = b1 at *
  clear hI1 hn2 hb1 w1
  have hT := smp_text
  unfold smpT at hT
  refine (Code.text_of smp (some ⟨b, 0, none⟩) 6 6 rfl smp_w1 (by decide) w2 hI2 smp_z _ 0 hT).mono ?_
  rintro e w3 ⟨rfl, hb3⟩
  clear hT hc1
  have hI3 := hI2.keep hb3
  have hr3 := iNext hr1 hb3
  have hb03 := bnext hb2 hb3
  clear hI2 hr1 hb2 hb3
  go_upto_region 4 with (fail)
  have hn4 := Below.news (Below.refl w3.heap.size w3) (.cells #[] 31)
  have hO4 := OwnI.lit w3 w3.heap.size (Nat.le_refl _) [] 0 rfl (by decide) #[] rfl
  have hc1 := iCells0 (iNext hr3 hn4)
  have HI4 := hide (hI3.keep hn4).src
  have HO4 := hide hO4
  have HN4 := hide hn4
  clear hO4 hn4
  go_upto_region 5 with (first | (at_builtin; refine step_ai rfl (.tmp 14) (.tmp 16) rfl w3.heap.size _ [] smp rfl HO4.out (some ⟨b, 0, none⟩) 6 6 rfl rfl HI4.out (by decide) HN4.out.size ?_; intro v4 u4 hO5 hB5 hg5; obtain ⟨A5, c5, e5, _, _⟩ := hO5.its; subst e5; have HO5 := hide hO5; have HB5 := hide hB5; clear hO5 hB5 hg5) | (at_builtin; refine step_ai rfl (.tmp 17) (.tmp 19) rfl w3.heap.size _ ([] ++ smp) [smpX] rfl (HO5.out.below (Below.news (Below.refl u4.heap.size u4) (.cells #[.int .i64 2, .string ⟨#[112, 53]⟩, .string ⟨#[100, 49]⟩, .string ⟨#[]⟩, .string ⟨#[]⟩, .string ⟨#[]⟩, .bool false] 31))) (some ⟨u4.heap.size, 0, none⟩) 1 1 rfl rfl (by obtain ⟨A9, c9, e9, _, h9⟩ := (OwnI.lit u4 u4.heap.size (Nat.le_refl _) [smpX] 1 rfl (by decide) #[.int .i64 2, .string ⟨#[112, 53]⟩, .string ⟨#[100, 49]⟩, .string ⟨#[]⟩, .string ⟨#[]⟩, .string ⟨#[]⟩, .bool false] rfl).its; cases e9; exact h9.src) (by decide) (Nat.le_trans (Nat.le_trans HN4.out.size HB5.out.size) (Below.news (Below.refl u4.heap.size u4) (.cells #[.int .i64 2, .string ⟨#[112, 53]⟩, .string ⟨#[100, 49]⟩, .string ⟨#[]⟩, .string ⟨#[]⟩, .string ⟨#[]⟩, .bool false] 31)).size) ?_; intro v5 u5 hO6 hB6 hg6; obtain ⟨A6, c6, e6, _, hI6⟩ := hO6.its; subst e6; clear hg6))
  have hB7 : Below w3.heap.size w3 u5 := ((HN4.out.trans HB5.out).trans ((Below.news (Below.refl u4.heap.size u4) (.cells #[.int .i64 2, .string ⟨#[112, 53]⟩, .string ⟨#[100, 49]⟩, .string ⟨#[]⟩, .string ⟨#[]⟩, .string ⟨#[]⟩, .bool false] 31)).mono (Nat.le_trans HN4.out.size HB5.out.size))).trans hB6
  have hr5 := iNext hr3 hB7
  have hI5 := hI3.keep hB7
  have hb05 := bnext hb03 hB7
  clear hc1 HI4 HO4 HN4 HO5 HB5 hB6 hO6 hB7 hb03 hI3 hr3
  have hn8 := Below.news (Below.refl u5.heap.size u5) (.cells #[.slice A6 (smp.length + 1) c6] 24)
  have hrB := heap_alloc_new u5 (.cells #[.slice A6 (smp.length + 1) c6] 24)
  have hrA := iNext hr5 hn8
  have hIA := hI5.keep hn8
  have hIB : Its (u5.alloc (.cells #[.slice A6 (smp.length + 1) c6] 24)) (u5.alloc (.cells #[.slice A6 (smp.length + 1) c6] 24)).heap.size A6 (smp ++ [smpX]) := hI6.keep hn8
  have hb08 := bnext hb05 hn8
  clear hr5 hI5 hI6 hb05 hn8
  generalize u5.alloc (.cells #[.slice A6 (smp.length + 1) c6] 24) = u6 at *
  generalize u5.heap.size = b5 at *
  have hmx : Tryz.prog.follows .mixedOrders = true := by kernel_rfl
  refine wp_region_noPanic ?_
  refine wp_region_L (fun X_ : World => X_.heap[b1]? = some (.cells #[.slice (some ⟨b, 0, none⟩) 6 6] 24 (0, 0))) 6 hmx ?_
  have hdr := (Below.refl u6.heap.size u6).drew
  have hHeld : (fun X_ : World => X_.heap[b1]? = some (.cells #[.slice (some ⟨b, 0, none⟩) 6 6] 24 (0, 0))) u6.drew := iNext hrA hdr
  have hrB1 := iNext hrB hdr
  have hIA1 := hIA.keep hdr
  have hIB1 := hIB.keep hdr
  have hb09 := bnext hb08 hdr
  clear hrA hrB hIA hIB hb08 hdr
  generalize u6.drew = u7 at *
  refine wpAnyL_take (i := 0) (f0 := 12) (v := ?_) rfl (by decide +kernel) (by decide +kernel) (by decide +kernel) (by decide +kernel) (by decide +kernel) (fun _ _ _ h => h) (Or.inl ⟨by rfl, ?_⟩) hHeld ?_
  rotate_left
  · intro wS hS; have c9 := iCells0 hS; go_simp; (try with_reducible rfl)
  simp only [Act.put, List.getElem_toArray, List.getElem_cons_succ, List.getElem_cons_zero, List.setIfInBounds_toArray, List.set_cons_succ, List.set_cons_zero]
  refine wpAnyL_take (i := 2) (f0 := 12) (v := ?_) rfl (by decide +kernel) (by decide +kernel) (by decide +kernel) (by decide +kernel) (by decide +kernel) (fun _ _ _ h => h) (Or.inl ⟨by rfl, ?_⟩) hHeld ?_
  rotate_left
  · intro wS hS; have c9 := iCells0 hS; go_simp; (try with_reducible rfl)
  simp only [Act.put, List.getElem_toArray, List.getElem_cons_succ, List.getElem_cons_zero, List.setIfInBounds_toArray, List.set_cons_succ, List.set_cons_zero]
  refine wpAnyL_one (i := 1) (by decide +kernel) (by rfl) (fun K hK => ?_)
  rw [if_pos (by rfl)]
  go_simp
  refine (Code.below_of smp (some ⟨b, 0, none⟩) 6 6 rfl smp_w1 (by decide) ⟨#[100, 49]⟩ u7 hIA1 _ smp_below).mono ?_
  rintro e u8 ⟨⟨A7, c7, rfl, hc7, hS7⟩, hb8⟩
  have hHeld8 : (fun X_ : World => X_.heap[b1]? = some (.cells #[.slice (some ⟨b, 0, none⟩) 6 6] 24 (0, 0))) u8 := iNext hHeld hb8
  refine hK.out _ _ (Or.inr hHeld8) ?_
  clear hK K hHeld
  have hrB2 := iNext hrB1 hb8
  have hIA2 := hIA1.keep hb8
  have hIB2 := hIB1.keep hb8
  have hb10 := bnext hb09 hb8
  have he8 := he.next hb10
  clear hrB1 hIA1 hIB1 hb09 hb8
  try simp only [Act.put, List.getElem_toArray, List.getElem_cons_succ, List.getElem_cons_zero, List.setIfInBounds_toArray, List.set_cons_succ, List.set_cons_zero]
  refine wpAnyL_one (i := 3) (by decide +kernel) (by rfl) (fun K hK => ?_)
  rw [if_pos (by rfl)]
  go_simp
  obtain ⟨LV, hLV⟩ : ∃ L, Dg.leavesC smp = L := ⟨_, rfl⟩
  have hL1 := smp_leaves
  have hL2 := smp_leaf
  rw [hLV] at hL1 hL2
  refine (Code.leaves_of smp (some ⟨b, 0, none⟩) 6 6 rfl smp_w1 (by decide) u8 he8 hIA2 smp_z2 LV hLV).mono ?_
  rintro e u9 ⟨⟨A8, c8, rfl, hc8, hS8⟩, hb9⟩
  have hHeld9 : (fun X_ : World => X_.heap[b1]? = some (.cells #[.slice (some ⟨b, 0, none⟩) 6 6] 24 (0, 0))) u9 := iNext hHeld8 hb9
  refine hK.out _ _ (Or.inr hHeld9) ?_
  clear hK K hHeld8
  have hrB3 := iNext hrB2 hb9
  have hIA3 := hIA2.keep hb9
  have hIB3 := hIB2.keep hb9
  have hb11 := bnext hb10 hb9
  have hS7' := hS7.keep2 hb9
  clear hrB2 hIA2 hIB2 hb10 hb9 he8 hS7
  try simp only [Act.put, List.getElem_toArray, List.getElem_cons_succ, List.getElem_cons_zero, List.setIfInBounds_toArray, List.set_cons_succ, List.set_cons_zero]
  have HL2 := hide hL2
  have HLV := hide hLV
  clear hL2 hLV
  rw [hL1]
  rw [hL1] at hc8
  refine wpAnyL_one (i := 4) (by decide +kernel) (by rfl) (fun K hK => ?_)
  rw [if_pos (by rfl)]
  go_simp
  refine hK.out _ _ (Or.inr hHeld9) ?_
  clear hK K
  try simp only [Act.put, List.getElem_toArray, List.getElem_cons_succ, List.getElem_cons_zero, List.setIfInBounds_toArray, List.set_cons_succ, List.set_cons_zero]
  refine wpAnyL_one (i := 5) (by decide +kernel) (by rfl) (fun K hK => ?_)
  rw [if_pos (by rfl)]
  go_simp
  refine hK.out _ _ (Or.inr hHeld9) ?_
  clear hK K
  try simp only [Act.put, List.getElem_toArray, List.getElem_cons_succ, List.getElem_cons_zero, List.setIfInBounds_toArray, List.set_cons_succ, List.set_cons_zero]
  refine wpAnyL_done (by decide +kernel) ?_ _
  refine NoPanic.normal ?_
  have hcA := iCells0 hHeld9
  have hcB := iCells0 hrB3
  generalize u9 = u20 at *
  go_wp2_with fail
  have hA20 := hHeld9; have hB20 := hrB3; have hI20 := hIA3; have hJ20 := hIB3; have hS720 := hS7'; have hS820 := hS8; have hb20 := hb11
  clear hHeld9 hrB3 hIA3 hIB3 hS7' hS8 hb11
  refine (Code.valid_of smp (some ⟨b, 0, none⟩) 6 6 rfl smp_w1 (by decide) u20 hI20 true smp_valid).mono ?_
  rintro e u21 ⟨rfl, hx21⟩
  have hA21 := iNext hA20 hx21
  have hB21 := iNext hB20 hx21
  have hI21 := hI20.keep hx21
  have hJ21 := hJ20.keep hx21
  have hS721 := hS720.keep2 hx21
  have hS821 := hS820.keep2 hx21
  have hb21 := bnext hb20 hx21
  clear hx21 hb20 hA20 hB20 hI20 hJ20 hS720 hS820
  clear hcA hcB
  have hcA := iCells0 hA21
  have hcB := iCells0 hB21
  go_wp2_with fail
  refine (Code.valid_of (smp ++ [smpX]) A6 (smp.length + 1) c6 (by simp) smp_w (by decide) u21 hJ21 false smp_bad).mono ?_
  rintro e u22 ⟨rfl, hx22⟩
  have hA22 := iNext hA21 hx22
  have hI22 := hI21.keep hx22
  have hS722 := hS721.keep2 hx22
  have hS822 := hS821.keep2 hx22
  have hb22 := bnext hb21 hx22
  clear hx22 hb21 hA21 hB21 hI21 hJ21 hS721 hS821
  clear hcA hcB
  have hcA := iCells0 hA22
  go_wp2_with fail
  have hnL := Below.news (Below.refl u22.heap.size u22) (.cells #[.string ⟨#[112, 49]⟩, .string ⟨#[100, 50]⟩, .string ⟨#[112, 50]⟩, .string ⟨#[112, 51]⟩] 9)
  have hSl := Strs.new u22 [⟨#[112, 49]⟩, ⟨#[100, 50]⟩, ⟨#[112, 50]⟩, ⟨#[112, 51]⟩] #[.string ⟨#[112, 49]⟩, .string ⟨#[100, 50]⟩, .string ⟨#[112, 50]⟩, .string ⟨#[112, 51]⟩] 9 rfl
  have hAL := iNext hA22 hnL; have hIL := hI22.keep hnL; have h7L := hS722.keep2 hnL; have h8L := hS822.keep2 hnL; have hbL := bnext hb22 hnL
  clear hA22 hI22 hS722 hS822 hb22 hnL
  generalize u22.alloc (.cells #[.string ⟨#[112, 49]⟩, .string ⟨#[100, 50]⟩, .string ⟨#[112, 50]⟩, .string ⟨#[112, 51]⟩] 9) = u23 at *
  have hA23 := hAL; have hI23 := hIL; have hS723 := h7L; have hS823 := h8L; have hb23 := hbL
  clear hAL hIL h7L h8L hbL
  refine (same_of A7 _ c7 4 [⟨#[112, 49]⟩, ⟨#[100, 50]⟩, ⟨#[112, 50]⟩, ⟨#[112, 51]⟩] [⟨#[112, 49]⟩, ⟨#[100, 50]⟩, ⟨#[112, 50]⟩, ⟨#[112, 51]⟩] 4 4 rfl rfl true (by decide +kernel) u23 (by decide) (by decide) hS723 hSl).mono ?_
  rintro e u24 ⟨rfl, hx24⟩
  have hA24 := iNext hA23 hx24
  have hI24 := hI23.keep hx24
  have hS824 := hS823.keep2 hx24
  have hb24 := bnext hb23 hx24
  clear hx24 hb23 hA23 hI23 hS723 hS823
  clear hcA
  have hcA := iCells0 hA24
  go_wp2_with fail
  refine (Code.under_of smp (some ⟨b, 0, none⟩) 6 6 rfl smp_w1 (by decide) ⟨#[112, 50]⟩ ⟨#[100, 49]⟩ u24 hI24 true smp_under).mono ?_
  rintro e u25 ⟨rfl, hx25⟩
  have hA25 := iNext hA24 hx25
  have hI25 := hI24.keep hx25
  have hS825 := hS824.keep2 hx25
  have hb25 := bnext hb24 hx25
  clear hx25 hb24 hA24 hI24 hS824
  clear hcA
  have hcA := iCells0 hA25
  go_wp2_with fail
  refine (Code.under_of smp (some ⟨b, 0, none⟩) 6 6 rfl smp_w1 (by decide) ⟨#[112, 52]⟩ ⟨#[100, 49]⟩ u25 hI25 false smp_not).mono ?_
  rintro e u26 ⟨rfl, hx26⟩
  have hA26 := iNext hA25 hx26
  have hI26 := hI25.keep hx26
  have hS826 := hS825.keep2 hx26
  have hb26 := bnext hb25 hx26
  clear hx26 hb25 hA25 hI25 hS825
  clear hcA
  have hcA := iCells0 hA26
  obtain ⟨b8, off8, rfl, hb8l, hc8f⟩ := hS826.at_ (by rw [hL1]; decide)
  have hc81 := hc8f 1 _ HL2.out
  clear hc8f
  go_wp2_with fail
  clear hc81
  refine (Code.find_of smp (some ⟨b, 0, none⟩) 6 6 rfl (by decide) ⟨#[112, 51]⟩ u26 hI26 4 smp_find).mono ?_
  rintro e u27 ⟨rfl, hx27⟩
  have hA27 := iNext hA26 hx27
  have hI27 := hI26.keep hx27
  have hb27 := bnext hb26 hx27
  clear hx27 hb26 hA26 hI26 hS826
  clear hcA
  have hcA := iCells0 hA27
  go_wp2_with fail
  obtain ⟨DG, hDG⟩ : ∃ D, Dg.digestC smp = D := ⟨_, rfl⟩
  have hD1 := smp_digest
  have hD2 := smp_dsize
  rw [hDG] at hD1 hD2
  refine (Code.digest_of smp (some ⟨b, 0, none⟩) 6 6 rfl smp_w1 (by decide) u27 (he.next hb27) hI27 smp_z DG hDG).mono ?_
  rintro e u28 ⟨rfl, hx28⟩
  have hA28 := iNext hA27 hx28
  have hb28 := bnext hb27 hx28
  clear hx28 hb27 hA27 hI27
  clear hcA
  have hcA := iCells0 hA28
  go_wp2_with fail
  refine (is_of DG true hD1 (by omega) u28).mono ?_
  rintro e u29 ⟨rfl, hx29⟩
  have hb29 := bnext hb28 hx29
  clear hx29 hb28 hA28
  clear hcA
  go_wp2
  go_ret
  exact ⟨rfl, hb29⟩
end Go.Proofs.YtpldhempbdionaaGreatDoor
/- Two codes of a law. No conditions but those that each theorem states. -/
namespace Go.Proofs.YtpldhempbdionaaGreatDoor
open Go Go.RowKit Go.Sort Go.Maps
/-- What a law about two codes holds. -/
structure C2 (g g' : Nat) (A : Option Addr) (n c : Nat) (l : List Dg.It) (A' : Option Addr) (n' c' : Nat) (l' : List Dg.It) (X : World) : Prop where
  r1 : X.heap[g]? = some (.cells #[.slice A n c] 24 (0, 0))
  r2 : X.heap[g']? = some (.cells #[.slice A' n' c'] 24 (0, 0))
  i1 : Its X X.heap.size A l
  i2 : Its X X.heap.size A' l'
  env : Env X
theorem C2.below {g g' : Nat} {A : Option Addr} {n c : Nat} {l : List Dg.It} {A' : Option Addr} {n' c' : Nat} {l' : List Dg.It} {X X' : World} (h : C2 g g' A n c l A' n' c' l' X) (hb : Below X.heap.size X X') : C2 g g' A n c l A' n' c' l' X' :=
  ⟨iNext h.r1 hb, iNext h.r2 hb, h.i1.keep hb, h.i2.keep hb, h.env.next hb⟩
theorem jCells2 {w : World} {g : Nat} {a b : Value} {T : TypeId} (h : w.heap[g]? = some (.cells #[a, b] T (0, 0))) : w.cell? ⟨g, 0, none⟩ = some a ∧ w.cell? ⟨g, 1, none⟩ = some b := by
  refine ⟨?_, ?_⟩ <;> (rw [cell_of_row _ _ _ _ _ (0, 0) h]; rfl)
theorem few2_of (l : List Dg.It) (A : Option Addr) (n c : Nat) (hl : l.length = n) (hn : n ≤ 9223372036854775807) (l' : List Dg.It) (A' : Option Addr) (n' c' : Nat) (hl' : l'.length = n') (hn' : n' ≤ 9223372036854775807) (w : World) (g : Nat) (hg : w.heap.size = g) (hI : Its w w.heap.size A l) (hI' : Its w w.heap.size A' l') (R : Bool) (hR : (fewC l 30 && fewC l' 30) = R) :
    Calls Tryz.prog 10 #[.slice (some ⟨g, 0, none⟩) 2 2] (w.alloc (.cells #[.slice A n c, .slice A' n' c'] 24)) fun e w' => e = .returned (.bool R) ∧ Below w.heap.size w w' := by
  subst hg hl hl'
  have hx := Below.news (Below.refl w.heap.size w) (.cells #[.slice A l.length c, .slice A' l'.length c'] 24)
  have hrow := heap_alloc_new w (.cells #[.slice A l.length c, .slice A' l'.length c'] 24)
  obtain ⟨q0, q1⟩ := jCells2 hrow
  have hJ := hI.keep hx
  have hJ' := hI'.keep hx
  have hlt := lt_of_block hrow
  have hD : Cds (w.alloc (.cells #[.slice A l.length c, .slice A' l'.length c'] 24)) w.heap.size [⟨l, A, c⟩, ⟨l', A', c'⟩] := by
    generalize w.alloc (.cells #[.slice A l.length c, .slice A' l'.length c'] 24) = w1 at *
    generalize w.heap.size = g at *
    refine ⟨hlt, fun j d hj => ?_⟩
    rcases j with _ | _ | j
    · rw [List.getElem?_cons_zero] at hj
      injection hj with hj
      subst hj
      exact ⟨q0, hJ, hn⟩
    · rw [List.getElem?_cons_succ, List.getElem?_cons_zero] at hj
      injection hj with hj
      subst hj
      exact ⟨q1, hJ', hn'⟩
    · rw [List.getElem?_cons_succ, List.getElem?_cons_succ, List.getElem?_nil] at hj
      cases hj
  refine (cfew_of [⟨l, A, c⟩, ⟨l', A', c'⟩] w.heap.size 2 rfl (by decide) _ hD R (by rw [← hR]; show (fewC l 30 && (fewC l' 30 && true)) = _; rw [Bool.and_true])).mono fun e w' h => ⟨h.1, bnext hx h.2⟩
theorem few_sizes {l : List Dg.It} {m : Nat} (h : fewC l m = true) : l.length ≤ m ∧ ∀ x ∈ l, ∀ s ∈ Dg.fieldsI x, s.size ≤ 500 := by
  obtain ⟨h1, h2⟩ := fewC_spec h
  exact ⟨h1, fun x hx => small_fields (h2 x hx)⟩
theorem few_up {l : List Dg.It} {z y : Nat} (h : ∀ x ∈ l, ∀ s ∈ Dg.fieldsI x, s.size ≤ z) (hzy : z ≤ y) : ∀ x ∈ l, ∀ s ∈ Dg.fieldsI x, s.size ≤ y := fun x hx s hs => Nat.le_trans (h x hx s hs) hzy
theorem str_yes {a b : ByteArray} (h : a = b) : (a.toList == b.toList) = true := (bytes_beq a b).2 h
theorem str_no {a b : ByteArray} (h : a ≠ b) : (a.toList == b.toList) = false := by
  cases e : a.toList == b.toList with
  | false => rfl
  | true => exact absurd ((bytes_beq a b).1 e) h
end Go.Proofs.YtpldhempbdionaaGreatDoor
/- A code of a law. No conditions but those that each theorem states. -/
namespace Go.Proofs.YtpldhempbdionaaGreatDoor
open Go Go.RowKit Go.Sort Go.Maps
/-- What a law about a code holds: the code in its variable, its items, the tables, and a list of strings. -/
structure CS (g : Nat) (A : Option Addr) (n c : Nat) (l : List Dg.It) (A7 : Option Addr) (L : List ByteArray) (X : World) : Prop where
  row : X.heap[g]? = some (.cells #[.slice A n c] 24 (0, 0))
  its : Its X X.heap.size A l
  env : Env X
  lis : Strs X X.heap.size A7 L
theorem CS.below {g : Nat} {A : Option Addr} {n c : Nat} {l : List Dg.It} {A7 : Option Addr} {L : List ByteArray} {X X' : World} (h : CS g A n c l A7 L X) (hb : Below X.heap.size X X') : CS g A n c l A7 L X' :=
  ⟨iNext h.row hb, h.its.keep hb, h.env.next hb, keepS h.lis hb⟩
end Go.Proofs.YtpldhempbdionaaGreatDoor
/- Items of the call's own: a store, pieces. No conditions but those that each theorem states. -/
namespace Go.Proofs.YtpldhempbdionaaGreatDoor
open Go Go.RowKit Go.Sort Go.Maps
theorem OwnI.full {w : World} {B : Nat} {v : Value} {l : List Dg.It} (h : OwnI w B v l) (h0 : 0 < l.length) : ∃ g cap, v = .slice (some ⟨g, 0, none⟩) l.length cap ∧ B ≤ g ∧ g < w.heap.size ∧ l.length ≤ cap ∧ ∃ cs, w.heap[g]? = some (.cells cs 31 (0, 0)) := by
  have h' := h
  unfold OwnI at h'
  rcases h'.2 with ⟨_, h1⟩ | ⟨g, cap, cur, hv, hb, hg, h2, _⟩
  · omega
  · exact ⟨g, cap, hv, hb, lt_of_block hg, h2, cur, hg⟩
theorem OwnI.it {w : World} {B g n cap : Nat} {l : List Dg.It} (h : OwnI w B (.slice (some ⟨g, 0, none⟩) n cap) l) : Its w w.heap.size (some ⟨g, 0, none⟩) l := by
  obtain ⟨A, c, e, _, hI⟩ := h.its
  injection e with e1 _ _
  rw [e1]; exact hI
/-- The items from a place on. -/
theorem Its.drop {w : World} {B b off : Nat} {l : List Dg.It} (h : Its w B (Option.some ⟨b, off, none⟩) l) (k : Nat) : Its w B (Option.some ⟨b, off + k * 7, none⟩) (l.drop k) :=
  ⟨fun h0 => by
    rw [List.length_drop] at h0
    obtain ⟨b', off', e, hb, hc⟩ := h.at_ (by omega)
    cases e
    refine ⟨b, off + k * 7, rfl, hb, fun j x hj i u hu => ?_⟩
    rw [List.getElem?_drop] at hj
    have := hc (k + j) x hj i u hu
    rw [show off + (k + j) * 7 + i = off + k * 7 + j * 7 + i by omega] at this
    exact this⟩
theorem own_ne {w : World} {B : Nat} {v : Value} {l : List Dg.It} (h : OwnI w B v l) {g : Nat} {cs : Array Value} (hr : w.heap[g]? = some (.cells cs 24 (0, 0))) : ∀ k, v.ownBlock = some k → k ≠ g := fun k hk e => by
  unfold OwnI at h
  rcases h.2 with ⟨h0, _⟩ | ⟨g', cap, cur, hv, _, hg, _⟩
  · rw [h0] at hk; cases hk
  · rw [hv] at hk
    cases hk
    have e' : g' = g := e
    rw [e', hr] at hg
    injection hg with hg
    injection hg with _ h9 _
    exact absurd h9 (by decide)
theorem OwnI.far {w : World} {B : Nat} {v : Value} {l : List Dg.It} (h : OwnI w B v l) {g : Nat} {cs : Array Value} (hr : w.heap[g]? = some (.cells cs 24 (0, 0))) (u : Value) : OwnI (w.setCell ⟨g, 0, none⟩ u) B v l := by
  have hne := own_ne h hr
  unfold OwnI at *
  refine ⟨h.1, ?_⟩
  rcases h.2 with h0 | ⟨g', cap, cur, hv, hb, hg, r⟩
  · exact Or.inl h0
  · exact Or.inr ⟨g', cap, cur, hv, hb, (Below.heap_setCell _ _ _ _ (hne g' (by rw [hv]; rfl))).trans hg, r⟩
theorem OwnI.it' {w : World} {B n cap : Nat} {A : Option Addr} {l : List Dg.It} (h : OwnI w B (.slice A n cap) l) : Its w w.heap.size A l := by
  obtain ⟨A', c, e, _, hI⟩ := h.its
  injection e with e1 _ _
  rw [e1]; exact hI
end Go.Proofs.YtpldhempbdionaaGreatDoor
/- strings.SplitAfter at a line feed; what Parse of package code reads of a line. No conditions but those that each theorem states. -/
namespace Go.Proofs.YtpldhempbdionaaGreatDoor
open Go Go.RowKit Go.Sort Go.Maps
theorem splitB_size (sep : ByteArray) (sv : Nat) : ∀ (k : Nat) (s : ByteArray), ∀ p ∈ Lib.splitB sep sv k s, p.size ≤ s.size
  | 0, s, p, hp => by
    rw [Lib.splitB_zero] at hp
    rw [List.mem_singleton.1 hp]
    exact Nat.le_refl _
  | k + 1, s, p, hp => by
    unfold Lib.splitB at hp
    split at hp
    · rw [List.mem_singleton.1 hp]
      exact Nat.le_refl _
    · rcases List.mem_cons.1 hp with rfl | hp
      · rw [ByteArray.size_extract]; omega
      · have := splitB_size sep sv k _ p hp
        rw [ByteArray.size_extract] at this
        omega
/-- The pieces of a text, each with its line feed. -/
def piecesB (t : ByteArray) : List ByteArray := Lib.splitB ⟨#[10]⟩ 1 (Lib.countB t ⟨#[10]⟩) t
theorem pieces_len (t : ByteArray) : (piecesB t).length = Lib.countB t ⟨#[10]⟩ + 1 := Lib.splitB_all ⟨#[10]⟩ (by decide) 1 _ t rfl
def MaxI (w : World) : Prop := ∃ m, w.cell? ⟨2, 0, none⟩ = some (.int .i64 m)
theorem MaxI.below {w w' : World} {B : Nat} (h : MaxI w) (hb : Below B w w') (hB : 2 < B) : MaxI w' := by
  obtain ⟨m, hm⟩ := h
  exact ⟨m, (hb.cell (p := ⟨2, 0, none⟩) hB).trans hm⟩
theorem MaxI.lt {w : World} (h : MaxI w) : 2 < w.heap.size := by
  obtain ⟨m, hm⟩ := h
  exact World.block_lt_of_cell? _ _ hm
theorem MaxI.next {w w' : World} (h : MaxI w) (hb : Below w.heap.size w w') : MaxI w' := h.below hb h.lt
theorem splitafter_any (t : ByteArray) (hs : t.size ≤ 1000000) (w : World) (hm : MaxI w) (n : Nat) (hn : (piecesB t).length = n) :
    Calls Tryz.prog 57 #[.string t, .string ⟨#[10]⟩] w fun e w' => (∃ b, w.heap.size ≤ b ∧ e = .returned (.slice (some ⟨b, 0, none⟩) n n) ∧ Strs w' w'.heap.size (some ⟨b, 0, none⟩) (piecesB t)) ∧ Below w.heap.size w w' := by
  obtain ⟨m, hm⟩ := hm
  have hpl := pieces_len t
  have hle := Lib.countB_le ⟨#[10]⟩ (by decide) t.size t (Nat.le_refl _)
  obtain ⟨cnt, hcnt⟩ : ∃ cnt, Lib.countB t ⟨#[10]⟩ = cnt := ⟨_, rfl⟩
  have hc := Tryz.strings_genSplit t ⟨#[10]⟩ 1 (-1) (cnt + 1) m w (by omega) hm (by decide) (by decide) (by decide) (by decide) (by rw [hcnt, if_pos (by decide)]; omega)
  have e1 : Lib.splitB ⟨#[10]⟩ 1 (cnt + 1 - 1) t = piecesB t := by unfold piecesB; rw [hcnt]; rfl
  rw [e1, hn] at hc
  have e2 : cnt + 1 = n := by omega
  rw [e2] at hc
  have e3 : Lib.cellsOf (piecesB t) n = ((piecesB t).map Value.string).toArray := by rw [← hn]; exact Lib.cellsOf_full _
  rw [e3] at hc
  clear hpl hle e1 e2 e3 hcnt hm
  go_enter Tryz.func57, Tryz.ntmps57
  go_wp2_with fail
  refine hc.mono ?_
  rintro e w' ⟨rfl, rfl⟩
  go_wp2
  go_ret
  refine ⟨⟨_, Nat.le_refl _, rfl, ⟨fun _ => ⟨w.heap.size, 0, rfl, by simp, fun j s hj => ?_⟩⟩⟩, (Below.refl _ _).alloc (Nat.le_refl _) _⟩
  rw [cell_of_row _ _ _ _ _ (0, 0) (heap_alloc_new w (.cells ((piecesB t).map Value.string).toArray _)), Nat.zero_add, List.getElem?_toArray, List.getElem?_map, hj]
  rfl
theorem results_ct9 {fn : Func} {p u : Tmp} {ty : TypeId} (h : fn.results = #[.cell p ty, .tmp u]) (tmps : Array Value) (w : World) (g : Nat) (t : TypeId) (cs : Array Value) (fr : Nat × Nat) (fs : Array Field)
    (hp : tmps.getD p undef = .pointer (some ⟨g, 0, none⟩)) (hg : w.heap[g]? = some (.cells cs t fr))
    (hu : Tryz.prog.underlying ty = some (.struct fs)) (hi : (Tryz.prog.info? ty).map (·.size) = some cs.size) :
    (results fn tmps).run Tryz.prog w = .ok (.tuple #[.agg cs, tmps.getD u undef]) w := by
  rw [results_cell_tmp h, hp]
  simp only [asAddr, Sem.run_pure, Result.andThen_ok]
  rw [run_loadVar_row w g t ty cs fr (.struct fs) hg hu rfl hi]
  rfl
theorem strs_set {X : World} {B b off g : Nat} {l : List ByteArray} (h : Strs X B (some ⟨b, off, none⟩) l) (hne : b ≠ g) (u : Value) : Strs (X.setCell ⟨g, 0, none⟩ u) B (some ⟨b, off, none⟩) l :=
  ⟨fun h0 => by
    obtain ⟨b', off', e, hb, hc⟩ := h.at_ h0
    cases e
    exact ⟨b, off, rfl, hb, fun j s hj => (World.cell?_setCell_other _ _ _ _ (fun e => hne (by injection e with e1; exact e1.symm))).trans (hc j s hj)⟩⟩
/-- A dash stands for nothing. -/
def dashB (s : ByteArray) : ByteArray := Dg.dashL (Dg.L s)
theorem dashB_yes {s : ByteArray} (h : Dg.L s = [45]) : dashB s = ⟨#[]⟩ := by unfold dashB Dg.dashL; rw [if_pos h]; rfl
theorem dashB_no {s : ByteArray} (h : Dg.L s ≠ [45]) : dashB s = s := by unfold dashB Dg.dashL; rw [if_neg h, Dg.B_L]
theorem toL_yes {s : ByteArray} {l : List UInt8} (h : Dg.L s = l) : (s.toList == l) = true := by rw [Lib.toList_data]; show (Dg.L s == l) = true; rw [h]; exact beq_self_eq_true _
theorem toL_no {s : ByteArray} {l : List UInt8} (h : Dg.L s ≠ l) : (s.toList == l) = false := by rw [Lib.toList_data]; exact beq_eq_false_iff_ne.2 h
theorem of_toL {s : ByteArray} {l : List UInt8} (h : (s.toList == l) = true) : Dg.L s = l := by rw [Lib.toList_data] at h; exact beq_iff_eq.1 h
theorem of_toLn {s : ByteArray} {l : List UInt8} (h : (s.toList == l) = false) : Dg.L s ≠ l := by rw [Lib.toList_data] at h; exact beq_eq_false_iff_ne.1 h
theorem toL_dec (s : ByteArray) (l : List UInt8) : (s.toList == l) = decide (Dg.L s = l) := by
  by_cases h : Dg.L s = l
  · rw [toL_yes h, decide_eq_true h]
  · rw [toL_no h, decide_eq_false h]
theorem tail_of {st : List UInt8} {s t : ByteArray} (h : unt2 st s = t) : ∃ q, Dg.L s = q ++ Dg.L t := by
  obtain ⟨q, hq⟩ := Dg.until_tail st (Dg.L s)
  refine ⟨q, ?_⟩
  rw [← h, (unt_L st s).2, ← hq]
theorem inside_tail : ∀ (f : Nat) (r : List UInt8), ∃ q, r = q ++ (Dg.insideP f r).2
  | 0, r => ⟨[], rfl⟩
  | f + 1, r => by
    obtain ⟨q, hq⟩ := Dg.until_tail [92, 34] r
    rw [Dg.insideP]
    cases hu : (Dg.untilP [92, 34] r).2 with
    | nil => exact ⟨r, by simp⟩
    | cons c r' =>
      rw [hu] at hq
      simp only
      by_cases h92 : Dg.stopAt [92, 34] r = some 92
      · rw [if_pos h92]
        obtain ⟨q2, hq2⟩ := inside_tail f r'
        exact ⟨q ++ c :: q2, by
          conv => lhs; rw [hq, hq2]
          simp⟩
      · rw [if_neg h92]
        exact ⟨q, hq⟩
theorem quote_tail (r : List UInt8) : ∃ q, r = q ++ (Dg.quoteP r).2 := by
  obtain ⟨q1, h1⟩ := Dg.until_tail [34] r
  obtain ⟨q2, h2⟩ := inside_tail r.length (Dg.untilP [34] r).2
  have e : (Dg.quoteP r).2 = (Dg.insideP r.length (Dg.untilP [34] r).2).2.tail := rfl
  rw [e]
  cases hI : (Dg.insideP r.length (Dg.untilP [34] r).2).2 with
  | nil => exact ⟨r, by simp⟩
  | cons a t =>
    rw [hI] at h2
    exact ⟨q1 ++ q2 ++ [a], by
      conv => lhs; rw [h1, h2]
      simp⟩
/-- What a line is read as, step by step. -/
theorem line_eq (line : ByteArray) (r1 r2 r3 r4 : ByteArray) (h1 : unt2 [32] line = r1) (h2 : unt2 [32] r1 = r2) (h3 : unt2 [32] r2 = r3) (h4 : unt2 [32, 10] r3 = r4) :
    Dg.parseLineP (Dg.L line) = if Dg.L (unt1 [32] line) = Dg.wDiv then ⟨1, unt1 [32] r1, dashB (unt1 [32] r2), dashB (unt1 [32, 10] r3), Dg.nil8, Dg.nil8, false⟩
      else ⟨2, unt1 [32] r1, dashB (unt1 [32] r2), dashB (unt1 [32, 10] r3), Dg.B (Dg.quoteP (Dg.L r4)).1, Dg.B (Dg.quoteP (Dg.quoteP (Dg.L r4)).2).1, decide (Dg.L (unt1 [32] line) = Dg.wRep)⟩ := by
  subst h1 h2 h3 h4
  rfl
theorem parse_kind (l : List UInt8) : (Dg.parseLineP l).kind = 1 ∨ (Dg.parseLineP l).kind = 2 := by
  unfold Dg.parseLineP
  simp only
  split
  · exact Or.inl rfl
  · exact Or.inr rfl
theorem items_w {l : List Dg.It} (hk : ∀ x ∈ l, x.kind = 1 ∨ x.kind = 2) (hz : ∀ x ∈ l, ∀ s ∈ Dg.fieldsI x, s.size ≤ 10000) : ∀ x ∈ l, ItW x := fun x hx => by
  have h := hz x hx
  have k := hk x hx
  unfold Dg.fieldsI at h
  simp only [List.mem_cons, List.not_mem_nil, or_false, forall_eq_or_imp, forall_eq] at h
  obtain ⟨_, h1, h2, h3, h4, h5⟩ := h
  exact ⟨by omega, by omega, by omega, by omega, by omega, by omega, by omega⟩
theorem parse_kinds (t : List UInt8) : ∀ x ∈ Dg.parseP t, x.kind = 1 ∨ x.kind = 2 := fun x hx => by
  unfold Dg.parseP at hx
  obtain ⟨l, _, rfl⟩ := List.mem_map.1 hx
  exact parse_kind l
theorem items_grow (P : List ByteArray) (k m : Nat) (h : k ≤ m) : (itemsTo P k).length ≤ (itemsTo P m).length := by
  unfold itemsTo
  rw [List.length_map, List.length_map]
  have e : P.take m = P.take k ++ (P.take m).drop k := by
    conv => lhs; rw [← List.take_append_drop k (P.take m)]
    rw [List.take_take, Nat.min_eq_left h]
  rw [e, List.map_append, List.filter_append, List.length_append]
  omega
/-- Too many items. -/
theorem parseO_many {t : ByteArray} (hz : t.size ≤ 1000000) {k : Nat} (hk : k < (piecesB t).length) (h : 2000 < (itemsTo (piecesB t) k).length) : Dg.parseO t = ([], 5) := by
  unfold Dg.parseO
  rw [if_neg (by omega), if_neg]
  rintro ⟨hv, _⟩
  have h1 := Dg.good_len hv
  have h2 := items_grow (piecesB t) k (piecesB t).length (by omega)
  rw [itemsTo_all t (piecesB t) rfl] at h2
  omega
/-- What the comparison with the text written back says. -/
theorem parseO_back {t : ByteArray} (hz : t.size ≤ 1000000) {l : List Dg.It} (hl : l = Dg.parseP (Dg.L t)) {S : ByteArray} {E : Int} (hS : Dg.textC l = (S, E)) : Dg.parseO t = if E = 0 ∧ S = t then (l, 0) else ([], 5) := by
  subst hl
  unfold Dg.parseO
  rw [if_neg (by omega)]
  unfold Dg.textC at hS
  by_cases hv : Dg.validC (Dg.parseP (Dg.L t)) = true
  · rw [if_pos hv] at hS
    split at hS
    · rename_i hb
      cases hS
      rw [if_neg, if_neg (fun h => absurd h.1 (by decide))]
      rintro ⟨_, h2⟩
      rw [h2, Dg.len_L] at hb
      omega
    · cases hS
      by_cases he : Dg.textL (Dg.parseP (Dg.L t)) = Dg.L t
      · rw [if_pos ⟨hv, he⟩, if_pos ⟨rfl, by rw [he, Dg.B_L]⟩]
      · rw [if_neg (fun h => he h.2), if_neg (fun (h : (0 : Int) = 0 ∧ Dg.B (Dg.textL (Dg.parseP (Dg.L t))) = t) => he (congrArg Dg.L h.2))]
  · rw [if_neg hv] at hS
    cases hS
    rw [if_neg (fun h => hv h.1), if_neg (fun h => absurd h.1 (by decide))]
end Go.Proofs.YtpldhempbdionaaGreatDoor
/- Parse of package code. No conditions but those that each theorem states. -/
namespace Go.Proofs.YtpldhempbdionaaGreatDoor
open Go Go.RowKit Go.Sort Go.Maps
/-- While a line is read: the scanner, the item in block bx; else what was below block n1. -/
structure PI (n1 : Nat) (wr : World) (line r : ByteArray) (x : Dg.It) (X : World) : Prop where
  sc : ScAt (n1 + 1) n1 line r X
  it : X.heap[n1 + 1 + 1]? = some (.cells (itV x) 31 (0, 0))
  bl : Below n1 wr X
  sz : n1 ≤ wr.heap.size
theorem PI.unt {n1 : Nat} {wr X X' : World} {line r r' : ByteArray} {x : Dg.It} (h : PI n1 wr line r x X) (ho : Off [n1] X X') (hi : InAt n1 r' X') : PI n1 wr line r' x X' :=
  ⟨h.sc.next (by omega) ho hi, ho.row h.it (fun hm => by have := List.mem_singleton.1 hm; omega), h.bl.trans (ho.below (Nat.le_trans h.sz h.bl.size) (fun g hg => by rw [List.mem_singleton.1 hg]; exact Nat.le_refl _)), h.sz⟩
theorem PI.set {n1 : Nat} {wr X : World} {line r : ByteArray} {x : Dg.It} (h : PI n1 wr line r x X) (j : Nat) (u : Value) (y : Dg.It) (hy : (itV x).setIfInBounds j u = itV y) : PI n1 wr line r y (X.setCell ⟨n1 + 1 + 1, j, none⟩ u) :=
  ⟨⟨(Below.heap_setCell _ _ _ _ (show n1 + 1 ≠ n1 + 1 + 1 by omega)).trans h.sc.sc, (Below.heap_setCell _ _ _ _ (show n1 ≠ n1 + 1 + 1 by omega)).trans h.sc.inp⟩, by rw [← hy]; exact setCell_rowN h.it j u, h.bl.setCell (p := ⟨n1 + 1 + 1, j, none⟩) (by show n1 ≤ n1 + 1 + 1; omega) u, h.sz⟩
theorem PI.below {n1 : Nat} {wr X X' : World} {line r : ByteArray} {x : Dg.It} (h : PI n1 wr line r x X) (hb : Below X.heap.size X X') : PI n1 wr line r x X' :=
  ⟨h.sc.below hb, iNext h.it hb, h.bl.trans (hb.mono (Nat.le_trans h.sz h.bl.size)), h.sz⟩
def ScRow (n1 : Nat) (line : ByteArray) (X : World) : Prop := X.heap[n1 + 1]? = some (.cells #[.pointer (some ⟨n1, 0, none⟩), .string line] 85 (0, 0))
theorem PI.row {n1 : Nat} {wr X : World} {line r : ByteArray} {x : Dg.It} (h : PI n1 wr line r x X) : ScRow n1 line X := h.sc.sc
theorem PI.cells {n1 : Nat} {wr X : World} {line r : ByteArray} {x : Dg.It} (h : PI n1 wr line r x X) : X.cell? ⟨n1 + 1 + 1, 0, none⟩ = some (.int .i64 x.kind) ∧ X.cell? ⟨n1 + 1 + 1, 1, none⟩ = some (.string x.id) ∧ X.cell? ⟨n1 + 1 + 1, 2, none⟩ = some (.string x.parent) ∧ X.cell? ⟨n1 + 1 + 1, 3, none⟩ = some (.string x.number) ∧ X.cell? ⟨n1 + 1 + 1, 4, none⟩ = some (.string x.north) ∧ X.cell? ⟨n1 + 1 + 1, 5, none⟩ = some (.string x.south) ∧ X.cell? ⟨n1 + 1 + 1, 6, none⟩ = some (.bool x.gone) := iCells h.it
theorem PI.fz {n1 : Nat} {wr X : World} {line r : ByteArray} {x : Dg.It} (h : PI n1 wr line r x X) (j : Nat) : X.frozen? ⟨n1 + 1 + 1, j, none⟩ = false := frozen_of_row _ _ _ _ _ h.it
/-- While the lines are gone through. -/
structure PL (w : World) (B0 : Nat) (A9 : Option Addr) (t : ByteArray) (k : Nat) (v : Value) (X : World) : Prop where
  r2 : X.heap[w.heap.size]? = some (.cells #[.slice none 0 0] 24 (0, 0))
  rc : X.heap[w.heap.size + 1]? = some (.cells #[v] 24 (0, 0))
  own : OwnI X B0 v (itemsTo (piecesB t) k)
  pcs : Strs X B0 A9 (piecesB t)
  bl : Below w.heap.size w X
  sz : B0 ≤ X.heap.size
  b0 : w.heap.size + 2 ≤ B0
  few : (itemsTo (piecesB t) k).length ≤ 2001
theorem src_item {w : World} (x : Dg.It) : SrcI (w.alloc (.cells (itV x) 31)) (some ⟨w.heap.size, 0, none⟩) [x] :=
  Or.inr ⟨w.heap.size, 0, rfl, fun j u hj => by
    rw [cell_of_row _ _ _ _ _ (0, 0) (heap_alloc_new w (.cells (itV x) 31)), Nat.zero_add, ← Array.getElem?_toList]
    rw [List.flatMap_cons, List.flatMap_nil, List.append_nil] at hj
    exact hj⟩
set_option maxRecDepth 100000 in
set_option maxHeartbeats 16000000 in
theorem Code.parse_of (t : ByteArray) (hs : t.size ≤ 1000000) (hz : ∀ x ∈ Dg.parseP (Dg.L t), ∀ s ∈ Dg.fieldsI x, s.size ≤ 10000) (w : World) (hm : MaxI w) (l : List Dg.It) (E : Int) (hO : Dg.parseO t = (l, E)) :
    Calls Tryz.prog 24 #[.string t] w fun e w' => (∃ A c, e = .returned (.tuple #[.agg #[.slice A l.length c], .int .i64 E]) ∧ l.length ≤ c ∧ Its w' w'.heap.size A l) ∧ Below w.heap.size w w' := by
  have hmx : Tryz.prog.follows .mixedOrders = true := by kernel_rfl
  obtain ⟨r2, rc, hb, hsz⟩ := iAlloc2 w (.cells #[.slice none 0 0] 24) (.cells #[.slice none 0 0] 24)
  have ht : ¬ ((1000000 : Int) < (t.size : Int)) := by omega
  have HO := hide hO; have HZ := hide hz
  clear hO hz
  obtain ⟨N, hN⟩ : ∃ N, (piecesB t).length = N := ⟨_, rfl⟩
  have HN := hide hN
  clear hN
  go_enter Tryz.func24, Tryz.ntmps24
  go_wp2_with fail
  generalize (w.alloc (.cells #[.slice none 0 0] 24)).alloc (.cells #[.slice none 0 0] 24) = w1 at *
  refine (splitafter_any t hs w1 (hm.next hb) N HN.out).mono ?_
  rintro e w2 ⟨⟨b9, hb9, rfl, hP⟩, hb2⟩
  have hN1 : 0 < (piecesB t).length := by rw [pieces_len]; omega
  have hNz : N ≤ 1000001 := by
    have h1 := pieces_len t
    have h2 := Lib.countB_le ⟨#[10]⟩ (by decide) t.size t (Nat.le_refl _)
    have h3 := HN.out
    omega
  have hb9' : w.heap.size + 2 ≤ b9 := by omega
  have hS0 : PL w w2.heap.size (some ⟨b9, 0, none⟩) t 0 (.slice none 0 0) w2 := ⟨iNext r2 hb2, iNext rc hb2, World.ownsRow_nil _ _ _ _, hP, bnext hb hb2, Nat.le_refl _, by have := hb2.size; omega, Nat.zero_le _⟩
  obtain ⟨B0, hB0⟩ : ∃ B0, w2.heap.size = B0 := ⟨_, rfl⟩
  rw [hB0] at hS0
  have HB0 := hide hB0
  have HB9 := hide hb9'
  clear hb hb2 r2 rc hP hN1 hsz hB0 hm hb9 hb9'
  go_wp2
  go_loopw [6, 7, 8, 9, 19] (fun _ _ _ _ kv wr => ∃ (k : Nat) (v : Value), k ≤ N ∧ kv = .int .i64 (k : Int) ∧ PL w B0 (some ⟨b9, 0, none⟩) t k v wr) (fun _ _ _ _ kv _ => N - (intOf kv).toNat)
  case atStart => exact ⟨0, _, by omega, rfl, hS0⟩
  case round =>
    clear hS0
    obtain ⟨k, v, hkN, rfl, hS⟩ := hrel
    obtain ⟨AI, cI, ev, hcI, hIt⟩ := hS.own.its
    obtain ⟨l0, hl0⟩ : ∃ l0, itemsTo (piecesB t) k = l0 := ⟨_, rfl⟩
    obtain ⟨n, hn⟩ : ∃ n, l0.length = n := ⟨_, rfl⟩
    rw [hl0, hn] at ev hcI
    rw [hl0] at hIt
    subst ev
    have HL0 := hide hl0; have HNL := hide hn
    clear hl0 hn
    have hrc := iCells0 hS.rc
    by_cases hlt : k < N
    · have hkl : k < (piecesB t).length := by rw [HN.out]; exact hlt
      obtain ⟨line, hline⟩ : ∃ line, (piecesB t)[k] = line := ⟨_, rfl⟩
      obtain ⟨b', off', e9, _, hpc⟩ := hS.pcs.get hkl
      cases e9
      rw [hline, Nat.zero_add] at hpc
      have hkn : (k : Int) < (N : Int) := by omega
      have hk0 : (0 : Int) ≤ (k : Int) := by omega
      have hls : line.size ≤ 1000000 := by
        have := splitB_size _ _ _ _ _ (List.getElem_mem hkl)
        rw [hline] at this
        omega
      have hsucc := itemsTo_succ (piecesB t) k hkl
      rw [hline, HL0.out] at hsucc
      have HSU := hide hsucc
      clear hsucc hline
      by_cases h0 : Dg.L line = []
      · have he := emp_yes h0
        have hz0 : line.size = 0 := by rw [← Dg.len_L, h0]; rfl
        have HZ0 := hide hz0
        clear hz0 h0
        go_wp2
        go_roundw
        case rel => exact ⟨k + 1, _, by omega, by go_num, ⟨hS.r2, hS.rc, by rw [HSU.out, if_pos HZ0.out, List.append_nil, ← HL0.out]; exact hS.own, hS.pcs, hS.bl, hS.sz, hS.b0, by rw [HSU.out, if_pos HZ0.out, List.append_nil, ← HL0.out]; exact hS.few⟩⟩
        case measure => simp [intOf]; omega
      · have he := emp_no h0
        have hz0 : line.size ≠ 0 := fun e => h0 (List.length_eq_zero_iff.1 (by rw [Dg.len_L]; exact e))
        have HZ0 := hide hz0
        clear hz0 h0
        by_cases hbig : 2000 < n
        · have hbi : (2000 : Int) < (n : Int) := by omega
          have hE := parseO_many hs hkl (by rw [HL0.out, HNL.out]; exact hbig)
          rw [HO.out] at hE
          cases hE
          have h2 := iCells0 hS.r2
          have hbl := hS.bl
          have fz2 := frozen_of_row _ _ 0 _ _ hS.r2
          clear hIt HO HSU
          go_wp2
          refine bodyPost_ret (results_ct9 Tryz.results24 _ _ w.heap.size 24 #[.slice none 0 0] (0, 0) _ rfl (setCell_row1 hS.r2 (.slice none 0 0)) Tryz.underlying24 (by kernel_rfl)) rfl ⟨⟨none, 0, rfl, Nat.le_refl _, Its.nil _ _ _⟩, hbl.setCell (p := ⟨w.heap.size, 0, none⟩) (Nat.le_refl _) _⟩
        · have hbi : ¬ (2000 : Int) < (n : Int) := by omega
          obtain ⟨i1, i2, i3, hb3, hsz3⟩ := iAlloc3 wr (.cells #[.string line] 83) (.cells #[.pointer (some ⟨wr.heap.size, 0, none⟩), .string line] 85) (.cells #[.int .i64 2, .string ⟨#[]⟩, .string ⟨#[]⟩, .string ⟨#[]⟩, .string ⟨#[]⟩, .string ⟨#[]⟩, .bool false] 31)
          go_wp2_with fail
          have hX0 : PI wr.heap.size wr line line ⟨2, ⟨#[]⟩, ⟨#[]⟩, ⟨#[]⟩, ⟨#[]⟩, ⟨#[]⟩, false⟩ (((wr.alloc (.cells #[.string line] 83)).alloc (.cells #[.pointer (some ⟨wr.heap.size, 0, none⟩), .string line] 85)).alloc (.cells #[.int .i64 2, .string ⟨#[]⟩, .string ⟨#[]⟩, .string ⟨#[]⟩, .string ⟨#[]⟩, .string ⟨#[]⟩, .bool false] 31)) := ⟨⟨i2, i1⟩, i3, hb3, Nat.le_refl _⟩
          generalize ((wr.alloc (.cells #[.string line] 83)).alloc (.cells #[.pointer (some ⟨wr.heap.size, 0, none⟩), .string line] 85)).alloc (.cells #[.int .i64 2, .string ⟨#[]⟩, .string ⟨#[]⟩, .string ⟨#[]⟩, .string ⟨#[]⟩, .string ⟨#[]⟩, .bool false] 31) = x0 at *
          clear i1 i2 i3 hb3 hsz3 hrc hpc
          refine (until_any wr.heap.size line hls ⟨#[32]⟩ [32] rfl (by decide) (by decide) (by decide) x0 hX0.sc.inp).mono ?_
          rintro e x1 ⟨rfl, hi1, ho1⟩
          have hX1 := hX0.unt ho1 hi1
          have hq1 := unt_size [32] line
          clear hX0 hi1 ho1
          obtain ⟨wd, hwd⟩ : ∃ wd, unt1 [32] line = wd := ⟨_, rfl⟩
          obtain ⟨t1, ht1⟩ : ∃ t1, unt2 [32] line = t1 := ⟨_, rfl⟩
          rw [hwd] at hq1 ⊢
          rw [ht1] at hX1 hq1
          have HWD := hide hwd; have HT1 := hide ht1
          clear hwd ht1
          go_upto_region 13 with (fail)
          refine wp_region_noPanic ?_
          refine wp_region_L (ScRow wr.heap.size line) 21 hmx ?_
          have hX2 := hX1.below (Below.refl x1.heap.size x1).drew
          have hR2 := hX2.row
          clear hX1
          generalize x1.drew = x2 at *
          refine wpAnyL_take (i := 0) (f0 := 23) (v := ?_) rfl (by decide +kernel) (by decide +kernel) (by decide +kernel) (by decide +kernel) (by decide +kernel) (fun _ _ _ h => h) (Or.inl ⟨by rfl, ?_⟩) hR2 ?_
          rotate_left
          · intro wS hS; go_simp; (try with_reducible rfl)
          simp only [Act.put, List.getElem_toArray, List.getElem_cons_zero, List.setIfInBounds_toArray, List.set_cons_succ, List.set_cons_zero]
          refine wpAnyL_take (i := 1) (f0 := 23) (v := ?_) rfl (by decide +kernel) (by decide +kernel) (by decide +kernel) (by decide +kernel) (by decide +kernel) (fun _ _ _ h => h) (Or.inl ⟨by rfl, ?_⟩) hR2 ?_
          rotate_left
          · intro wS hS; go_simp; (try with_reducible rfl)
          simp only [Act.put, List.getElem_toArray, List.getElem_cons_succ, List.getElem_cons_zero, List.setIfInBounds_toArray, List.set_cons_succ, List.set_cons_zero]
          refine wpAnyL_take (i := 2) (f0 := 23) (v := ?_) rfl (by decide +kernel) (by decide +kernel) (by decide +kernel) (by decide +kernel) (by decide +kernel) (fun _ _ _ h => h) (Or.inl ⟨by rfl, ?_⟩) hR2 ?_
          rotate_left
          · intro wS hS; go_simp; (try with_reducible rfl)
          simp only [Act.put, List.getElem_toArray, List.getElem_cons_succ, List.getElem_cons_zero, List.setIfInBounds_toArray, List.set_cons_succ, List.set_cons_zero]
          refine wpAnyL_take (i := 3) (f0 := 23) (v := ?_) rfl (by decide +kernel) (by decide +kernel) (by decide +kernel) (by decide +kernel) (by decide +kernel) (fun _ _ _ h => h) (Or.inl ⟨by rfl, ?_⟩) hR2 ?_
          rotate_left
          · intro wS hS; have c9 := (iCells2 hS).1; go_simp; (try with_reducible rfl)
          simp only [Act.put, List.getElem_toArray, List.getElem_cons_succ, List.getElem_cons_zero, List.setIfInBounds_toArray, List.set_cons_succ, List.set_cons_zero]
          refine wpAnyL_take (i := 5) (f0 := 23) (v := ?_) rfl (by decide +kernel) (by decide +kernel) (by decide +kernel) (by decide +kernel) (by decide +kernel) (fun _ _ _ h => h) (Or.inl ⟨by rfl, ?_⟩) hR2 ?_
          rotate_left
          · intro wS hS; go_simp; (try with_reducible rfl)
          simp only [Act.put, List.getElem_toArray, List.getElem_cons_succ, List.getElem_cons_zero, List.setIfInBounds_toArray, List.set_cons_succ, List.set_cons_zero]
          refine wpAnyL_take (i := 6) (f0 := 23) (v := ?_) rfl (by decide +kernel) (by decide +kernel) (by decide +kernel) (by decide +kernel) (by decide +kernel) (fun _ _ _ h => h) (Or.inl ⟨by rfl, ?_⟩) hR2 ?_
          rotate_left
          · intro wS hS; go_simp; (try with_reducible rfl)
          simp only [Act.put, List.getElem_toArray, List.getElem_cons_succ, List.getElem_cons_zero, List.setIfInBounds_toArray, List.set_cons_succ, List.set_cons_zero]
          refine wpAnyL_take (i := 7) (f0 := 23) (v := ?_) rfl (by decide +kernel) (by decide +kernel) (by decide +kernel) (by decide +kernel) (by decide +kernel) (fun _ _ _ h => h) (Or.inl ⟨by rfl, ?_⟩) hR2 ?_
          rotate_left
          · intro wS hS; go_simp; (try with_reducible rfl)
          simp only [Act.put, List.getElem_toArray, List.getElem_cons_succ, List.getElem_cons_zero, List.setIfInBounds_toArray, List.set_cons_succ, List.set_cons_zero]
          refine wpAnyL_take (i := 8) (f0 := 23) (v := ?_) rfl (by decide +kernel) (by decide +kernel) (by decide +kernel) (by decide +kernel) (by decide +kernel) (fun _ _ _ h => h) (Or.inl ⟨by rfl, ?_⟩) hR2 ?_
          rotate_left
          · intro wS hS; have c9 := (iCells2 hS).1; go_simp; (try with_reducible rfl)
          simp only [Act.put, List.getElem_toArray, List.getElem_cons_succ, List.getElem_cons_zero, List.setIfInBounds_toArray, List.set_cons_succ, List.set_cons_zero]
          refine wpAnyL_take (i := 10) (f0 := 23) (v := ?_) rfl (by decide +kernel) (by decide +kernel) (by decide +kernel) (by decide +kernel) (by decide +kernel) (fun _ _ _ h => h) (Or.inl ⟨by rfl, ?_⟩) hR2 ?_
          rotate_left
          · intro wS hS; go_simp; (try with_reducible rfl)
          simp only [Act.put, List.getElem_toArray, List.getElem_cons_succ, List.getElem_cons_zero, List.setIfInBounds_toArray, List.set_cons_succ, List.set_cons_zero]
          refine wpAnyL_take (i := 11) (f0 := 23) (v := ?_) rfl (by decide +kernel) (by decide +kernel) (by decide +kernel) (by decide +kernel) (by decide +kernel) (fun _ _ _ h => h) (Or.inl ⟨by rfl, ?_⟩) hR2 ?_
          rotate_left
          · intro wS hS; go_simp; (try with_reducible rfl)
          simp only [Act.put, List.getElem_toArray, List.getElem_cons_succ, List.getElem_cons_zero, List.setIfInBounds_toArray, List.set_cons_succ, List.set_cons_zero]
          refine wpAnyL_take (i := 12) (f0 := 23) (v := ?_) rfl (by decide +kernel) (by decide +kernel) (by decide +kernel) (by decide +kernel) (by decide +kernel) (fun _ _ _ h => h) (Or.inl ⟨by rfl, ?_⟩) hR2 ?_
          rotate_left
          · intro wS hS; go_simp; (try with_reducible rfl)
          simp only [Act.put, List.getElem_toArray, List.getElem_cons_succ, List.getElem_cons_zero, List.setIfInBounds_toArray, List.set_cons_succ, List.set_cons_zero]
          refine wpAnyL_take (i := 13) (f0 := 23) (v := ?_) rfl (by decide +kernel) (by decide +kernel) (by decide +kernel) (by decide +kernel) (by decide +kernel) (fun _ _ _ h => h) (Or.inl ⟨by rfl, ?_⟩) hR2 ?_
          rotate_left
          · intro wS hS; have c9 := (iCells2 hS).1; go_simp; (try with_reducible rfl)
          simp only [Act.put, List.getElem_toArray, List.getElem_cons_succ, List.getElem_cons_zero, List.setIfInBounds_toArray, List.set_cons_succ, List.set_cons_zero]
          refine wpAnyL_one (i := 4) (by decide +kernel) (by rfl) (fun K hK => ?_)
          rw [if_pos (by rfl)]
          go_simp
          refine (until_any wr.heap.size t1 (by omega) ⟨#[32]⟩ [32] rfl (by decide) (by decide) (by decide) x2 hX2.sc.inp).mono ?_
          rintro e x3 ⟨rfl, hi3, ho3⟩
          have hX3 := hX2.unt ho3 hi3
          have hq2 := unt_size [32] t1
          obtain ⟨idv, hw2⟩ : ∃ s, unt1 [32] t1 = s := ⟨_, rfl⟩
          obtain ⟨t2, ht2⟩ : ∃ s, unt2 [32] t1 = s := ⟨_, rfl⟩
          rw [hw2] at hq2 ⊢
          rw [ht2] at hX3 hq2
          have HW2 := hide hw2; have HT2 := hide ht2
          have hR3 := hX3.row
          refine hK.out _ _ (Or.inr hR3) ?_
          clear hK K hX2 hR2 hi3 ho3 hw2 ht2
          try simp only [Act.put, List.getElem_toArray, List.getElem_cons_succ, List.getElem_cons_zero, List.setIfInBounds_toArray, List.set_cons_succ, List.set_cons_zero]
          refine wpAnyL_take (i := 15) (f0 := 23) (v := ?_) rfl (by decide +kernel) (by decide +kernel) (by decide +kernel) (by decide +kernel) (by decide +kernel) (fun _ _ _ h => h) (Or.inl ⟨by rfl, ?_⟩) hR3 ?_
          rotate_left
          · intro wS hS; go_simp; (try with_reducible rfl)
          simp only [Act.put, List.getElem_toArray, List.getElem_cons_succ, List.getElem_cons_zero, List.setIfInBounds_toArray, List.set_cons_succ, List.set_cons_zero]
          refine wpAnyL_one (i := 9) (by decide +kernel) (by rfl) (fun K hK => ?_)
          rw [if_pos (by rfl)]
          go_simp
          refine (until_any wr.heap.size t2 (by omega) ⟨#[32]⟩ [32] rfl (by decide) (by decide) (by decide) x3 hX3.sc.inp).mono ?_
          rintro e x4 ⟨rfl, hi4, ho4⟩
          have hX4 := hX3.unt ho4 hi4
          have hq3 := unt_size [32] t2
          obtain ⟨pv, hw3⟩ : ∃ s, unt1 [32] t2 = s := ⟨_, rfl⟩
          obtain ⟨t3, ht3⟩ : ∃ s, unt2 [32] t2 = s := ⟨_, rfl⟩
          rw [hw3] at hq3 ⊢
          rw [ht3] at hX4 hq3
          have HW3 := hide hw3; have HT3 := hide ht3
          have hR4 := hX4.row
          refine hK.out _ _ (Or.inr hR4) ?_
          clear hK K hX3 hR3 hi4 ho4 hw3 ht3
          try simp only [Act.put, List.getElem_toArray, List.getElem_cons_succ, List.getElem_cons_zero, List.setIfInBounds_toArray, List.set_cons_succ, List.set_cons_zero]
          refine wpAnyL_one (i := 14) (by decide +kernel) (by rfl) (fun K hK => ?_)
          rw [if_pos (by rfl)]
          go_simp
          refine (until_any wr.heap.size t3 (by omega) ⟨#[32, 10]⟩ [32, 10] rfl (by decide) (by decide) (by decide) x4 hX4.sc.inp).mono ?_
          rintro e x5 ⟨rfl, hi5, ho5⟩
          have hX5 := hX4.unt ho5 hi5
          have hq4 := unt_size [32, 10] t3
          obtain ⟨nv, hw4⟩ : ∃ s, unt1 [32, 10] t3 = s := ⟨_, rfl⟩
          obtain ⟨t4, ht4⟩ : ∃ s, unt2 [32, 10] t3 = s := ⟨_, rfl⟩
          rw [hw4] at hq4 ⊢
          rw [ht4] at hX5 hq4
          have HW4 := hide hw4; have HT4 := hide ht4
          have hR5 := hX5.row
          refine hK.out _ _ (Or.inr hR5) ?_
          clear hK K hX4 hR4 hi5 ho5 hw4 ht4
          try simp only [Act.put, List.getElem_toArray, List.getElem_cons_succ, List.getElem_cons_zero, List.setIfInBounds_toArray, List.set_cons_succ, List.set_cons_zero]
          refine wpAnyL_one (i := 16) (by decide +kernel) (by rfl) (fun K hK => ?_)
          rw [if_pos (by rfl)]
          have cc := hX5.cells
          obtain ⟨c0, c1, c2, c3, c4, c5, c6⟩ := cc
          have fz := hX5.fz 1
          go_simp
          have hX6 := hX5.set 1 (.string idv) ⟨2, idv, ⟨#[]⟩, ⟨#[]⟩, ⟨#[]⟩, ⟨#[]⟩, false⟩ rfl
          generalize x5.setCell ⟨wr.heap.size + 1 + 1, 1, none⟩ (.string idv) = x6 at *
          have hR6 := hX6.row
          refine hK.out _ _ (Or.inr hR6) ?_
          clear hK K hX5 hR5 c0 c1 c2 c3 c4 c5 c6 fz
          try simp only [Act.put, List.getElem_toArray, List.getElem_cons_succ, List.getElem_cons_zero, List.setIfInBounds_toArray, List.set_cons_succ, List.set_cons_zero]
          refine wpAnyL_take (i := 17) (f0 := 23) (v := ?_) rfl (by decide +kernel) (by decide +kernel) (by decide +kernel) (by decide +kernel) (by decide +kernel) (fun _ _ _ h => h) (Or.inl ⟨by rfl, ?_⟩) hR6 ?_
          rotate_left
          · intro wS hS; go_simp; (try with_reducible rfl)
          simp only [Act.put, List.getElem_toArray, List.getElem_cons_succ, List.getElem_cons_zero, List.setIfInBounds_toArray, List.set_cons_succ, List.set_cons_zero]
          refine wpAnyL_one (i := 18) (by decide +kernel) (by rfl) (fun K hK => ?_)
          rw [if_pos (by rfl)]
          have cc := hX6.cells
          obtain ⟨c0, c1, c2, c3, c4, c5, c6⟩ := cc
          have fz := hX6.fz 2
          go_simp
          have hX7 := hX6.set 2 (.string pv) ⟨2, idv, pv, ⟨#[]⟩, ⟨#[]⟩, ⟨#[]⟩, false⟩ rfl
          generalize x6.setCell ⟨wr.heap.size + 1 + 1, 2, none⟩ (.string pv) = x7 at *
          have hR7 := hX7.row
          refine hK.out _ _ (Or.inr hR7) ?_
          clear hK K hX6 hR6 c0 c1 c2 c3 c4 c5 c6 fz
          try simp only [Act.put, List.getElem_toArray, List.getElem_cons_succ, List.getElem_cons_zero, List.setIfInBounds_toArray, List.set_cons_succ, List.set_cons_zero]
          refine wpAnyL_take (i := 19) (f0 := 23) (v := ?_) rfl (by decide +kernel) (by decide +kernel) (by decide +kernel) (by decide +kernel) (by decide +kernel) (fun _ _ _ h => h) (Or.inl ⟨by rfl, ?_⟩) hR7 ?_
          rotate_left
          · intro wS hS; go_simp; (try with_reducible rfl)
          simp only [Act.put, List.getElem_toArray, List.getElem_cons_succ, List.getElem_cons_zero, List.setIfInBounds_toArray, List.set_cons_succ, List.set_cons_zero]
          refine wpAnyL_one (i := 20) (by decide +kernel) (by rfl) (fun K hK => ?_)
          rw [if_pos (by rfl)]
          have cc := hX7.cells
          obtain ⟨c0, c1, c2, c3, c4, c5, c6⟩ := cc
          have fz := hX7.fz 3
          go_simp
          have hX8 := hX7.set 3 (.string nv) ⟨2, idv, pv, nv, ⟨#[]⟩, ⟨#[]⟩, false⟩ rfl
          generalize x7.setCell ⟨wr.heap.size + 1 + 1, 3, none⟩ (.string nv) = x8 at *
          have hR8 := hX8.row
          refine hK.out _ _ (Or.inr hR8) ?_
          clear hK K hX7 hR7 c0 c1 c2 c3 c4 c5 c6 fz
          try simp only [Act.put, List.getElem_toArray, List.getElem_cons_succ, List.getElem_cons_zero, List.setIfInBounds_toArray, List.set_cons_succ, List.set_cons_zero]
          refine wpAnyL_done (by decide +kernel) ?_ _
          refine NoPanic.normal ?_
          obtain ⟨c0, c1, c2, c3, c4, c5, c6⟩ := hX8.cells
          have fz := hX8.fz 2
          go_upto_if 62 with (fail)
          clear hR8
          go_cut [] (fun wx => PI wr.heap.size wr line t4 ⟨2, idv, dashB pv, nv, ⟨#[]⟩, ⟨#[]⟩, false⟩ wx)
          case first =>
            go_wp2_with fail
            · go_meet
              rw [dashB_yes (s := pv) (of_toL (by assumption))]
              exact hX8.set 2 (.string ⟨#[]⟩) _ rfl
            · go_meet
              rw [dashB_no (s := pv) (of_toLn (by assumption))]
              exact hX8
          case rest =>
            have hX9 := hcut
            clear hX8 hcut c0 c1 c2 c3 c4 c5 c6 fz
            have hR9 := hX9.row
            obtain ⟨c0, c1, c2, c3, c4, c5, c6⟩ := hX9.cells
            have fz := hX9.fz 3
            go_upto_if 66 with (fail)
            clear hR9
            go_cut [] (fun wx => PI wr.heap.size wr line t4 ⟨2, idv, dashB pv, dashB nv, ⟨#[]⟩, ⟨#[]⟩, false⟩ wx)
            case first =>
              go_wp2_with fail
              · go_meet
                rw [dashB_yes (s := nv) (of_toL (by assumption))]
                exact hX9.set 3 (.string ⟨#[]⟩) _ rfl
              · go_meet
                rw [dashB_no (s := nv) (of_toLn (by assumption))]
                exact hX9
            case rest =>
              have hX10 := hcut
              clear hX9 hcut c0 c1 c2 c3 c4 c5 c6 fz
              obtain ⟨c0, c1, c2, c3, c4, c5, c6⟩ := hX10.cells
              have fz := hX10.fz 6
              go_upto_if 72 with (fail)
              have hX11 := hX10.set 6 (.bool (wd.toList == [114, 101, 112, 101, 97, 108, 101, 100])) ⟨2, idv, dashB pv, dashB nv, ⟨#[]⟩, ⟨#[]⟩, (wd.toList == [114, 101, 112, 101, 97, 108, 101, 100])⟩ rfl
              generalize wc.setCell ⟨wr.heap.size + 1 + 1, 6, none⟩ (.bool (wd.toList == [114, 101, 112, 101, 97, 108, 101, 100])) = xa at *
              have PE := line_eq line t1 t2 t3 t4 HT1.out HT2.out HT3.out HT4.out
              rw [HWD.out, HW2.out, HW3.out, HW4.out] at PE
              have HPE := hide PE
              clear PE hX10 c0 c1 c2 c3 c4 c5 c6 fz
              obtain ⟨c0, c1, c2, c3, c4, c5, c6⟩ := hX11.cells
              have fz := hX11.fz 0
              go_cut [] (fun wx => ∃ r', PI wr.heap.size wr line r' (Dg.parseLineP (Dg.L line)) wx)
              case first =>
                go_wp2_with fail
                · go_meet
                  have hd : Dg.L wd = Dg.wDiv := of_toL (by assumption)
                  have hg : (wd.toList == [114, 101, 112, 101, 97, 108, 101, 100]) = false := toL_no (by rw [hd]; decide)
                  rw [HPE.out, if_pos hd]
                  rw [hg] at hX11
                  exact ⟨_, hX11.set 0 (.int .i64 1) _ rfl⟩
                · have hd : Dg.L wd ≠ Dg.wDiv := of_toLn (by assumption)
                  have HD := hide hd
                  clear hd
                  obtain ⟨p1, e1⟩ := tail_of HT1.out
                  obtain ⟨p2, e2⟩ := tail_of HT2.out
                  obtain ⟨p3, e3⟩ := tail_of HT3.out
                  obtain ⟨p4, e4⟩ := tail_of HT4.out
                  have epre : Dg.L line = (p1 ++ (p2 ++ (p3 ++ p4))) ++ Dg.L t4 := by rw [e1, e2, e3, e4]; simp
                  obtain ⟨G1, G2, hG⟩ : ∃ G1 G2, Dg.quoteP (Dg.L t4) = (G1, G2) := ⟨_, _, rfl⟩
                  obtain ⟨H1, H2, hH⟩ : ∃ H1 H2, Dg.quoteP G2 = (H1, H2) := ⟨_, _, rfl⟩
                  obtain ⟨q5, e5⟩ := quote_tail (Dg.L t4)
                  rw [hG] at e5
                  have epre2 : Dg.L line = ((p1 ++ (p2 ++ (p3 ++ p4))) ++ q5) ++ Dg.L (Dg.B G2) := by rw [epre, Dg.L_B, show Dg.L t4 = q5 ++ G2 from e5]; simp
                  have HG := hide hG; have HH := hide hH; have HP2 := hide epre2
                  clear e1 e2 e3 e4 e5 hG hH epre2 c0 c1 c2 c3 c4 c5 c6 fz
                  refine (quote_any (wr.heap.size + 1) wr.heap.size (by omega) line t4 hls _ epre xa hX11.sc G1 G2 HG.out).mono ?_
                  rintro e xb ⟨rfl, hsb, hob⟩
                  have hXb := hX11.unt hob hsb.inp
                  clear hX11 hsb hob epre
                  have hRb := iCells2 hXb.sc.sc
                  obtain ⟨cb1, cb2⟩ := hRb
                  go_wp2_with fail
                  refine (quote_any (wr.heap.size + 1) wr.heap.size (by omega) line (Dg.B G2) hls _ HP2.out xb hXb.sc H1 H2 (by rw [Dg.L_B]; exact HH.out)).mono ?_
                  rintro e xd ⟨rfl, hsd, hod⟩
                  have hXd := hXb.unt hod hsd.inp
                  clear hXb hsd hod cb1 cb2
                  obtain ⟨c0, c1, c2, c3, c4, c5, c6⟩ := hXd.cells
                  have fz4 := hXd.fz 4
                  have fz5 := hXd.fz 5
                  go_wp2_with fail
                  go_meet
                  rw [HPE.out, if_neg HD.out, HG.out]
                  simp only
                  rw [HH.out]
                  have hXe := hXd.set 4 (.string (Dg.B G1)) ⟨2, idv, dashB pv, dashB nv, Dg.B G1, ⟨#[]⟩, (wd.toList == [114, 101, 112, 101, 97, 108, 101, 100])⟩ rfl
                  have hXf := hXe.set 5 (.string (Dg.B H1)) ⟨2, idv, dashB pv, dashB nv, Dg.B G1, Dg.B H1, (wd.toList == [114, 101, 112, 101, 97, 108, 101, 100])⟩ rfl
                  rw [toL_dec] at hXf
                  exact ⟨_, hXf⟩
              case rest =>
                obtain ⟨t9, hX9⟩ := hcut
                clear hX11 c0 c1 c2 c3 c4 c5 c6 fz
                obtain ⟨y, hy⟩ : ∃ y, Dg.parseLineP (Dg.L line) = y := ⟨_, rfl⟩
                rw [hy] at hX9
                have HY := hide hy
                clear hy
                obtain ⟨c0, c1, c2, c3, c4, c5, c6⟩ := hX9.cells
                have hn9 := Below.news (Below.refl wc.heap.size wc) (.cells #[.int .i64 y.kind, .string y.id, .string y.parent, .string y.number, .string y.north, .string y.south, .bool y.gone] 31)
                have hrc9 := iNext hS.rc hX9.bl
                have hr29 := iNext hS.r2 hX9.bl
                have hOX : OwnI wc B0 (.slice AI n cI) l0 := by rw [← HL0.out]; exact OwnI.below hS.own hX9.bl
                have hPX : Strs wc B0 (some ⟨b9, 0, none⟩) (piecesB t) := hS.pcs.below (hX9.bl.mono (by exact hS.sz))
                have hBX : Below w.heap.size w wc := hS.bl.trans (hX9.bl.mono hS.bl.size)
                have hszX : B0 ≤ wc.heap.size := Nat.le_trans hS.sz hX9.bl.size
                have hOY := OwnI.below hOX hn9
                have hrcY := iNext hrc9 hn9
                have hr2Y := iNext hr29 hn9
                have hPY := hPX.below (hn9.mono hszX)
                have hBY := hBX.trans (hn9.mono hBX.size)
                have hszY := Nat.le_trans hszX hn9.size
                have hsrc : SrcI (wc.alloc (.cells #[.int .i64 y.kind, .string y.id, .string y.parent, .string y.number, .string y.north, .string y.south, .bool y.gone] 31)) (some ⟨wc.heap.size, 0, none⟩) [y] := src_item y
                have hneY := own_ne hOY hrcY
                have hne2 := own_ne hOY hr2Y
                have HOY := hide hOY; have HRCY := hide hrcY; have HR2Y := hide hr2Y; have HPY := hide hPY; have HBY := hide hBY; have HSZ := hide hszY; have HSRC := hide hsrc; have HNE := hide hneY; have HNE2 := hide hne2
                have hc1 := iCells0 hrc9
                have hb0 := hide hS.b0
                clear hX9 hn9 hrc9 hr29 hOX hPX hBX hszX hOY hrcY hr2Y hPY hBY hszY hsrc hneY hne2 hS hIt
                go_wp2_with (at_builtin; refine step_ai rfl (.tmp 81) (.tmp 83) rfl B0 _ l0 [y] rfl HOY.out (some ⟨wc.heap.size, 0, none⟩) 1 1 rfl rfl HSRC.out (by rw [HNL.out]; omega) HSZ.out ?_; intro v5 u5 hO5 hB5 hg5; obtain ⟨g5, cp5, e5, _, _, _, _⟩ := hO5.full (by simp); rw [show (l0 ++ [y]).length = n + 1 by rw [List.length_append, HNL.out]; rfl] at e5; subst e5; have hr5 := grown_row hg5 HRCY.out HNE.out; have hr52 := grown_row hg5 HR2Y.out HNE2.out; have hc5 := iCells0 hr5; have fz5 := frozen_of_row _ _ 0 _ _ hr5)
                go_roundw
                case rel =>
                  have hbb := hb0.out
                  refine ⟨k + 1, _, by omega, by go_num, ⟨(Below.heap_setCell _ _ _ _ (show w.heap.size ≠ w.heap.size + 1 by omega)).trans hr52, setCell_row1 hr5 _, ?_, strs_set (HPY.out.below hB5) (by have := HB9.out; omega) _, (HBY.out.trans (hB5.mono (by omega))).setCell (p := ⟨w.heap.size + 1, 0, none⟩) (by show w.heap.size ≤ w.heap.size + 1; omega) _, Nat.le_trans (Nat.le_trans HSZ.out hB5.size) (by simp [World.setCell]), hbb, ?_⟩⟩
                  · rw [HSU.out, if_neg HZ0.out, HY.out]
                    exact hO5.far hr5 _
                  · rw [HSU.out, if_neg HZ0.out, HY.out, List.length_append, HNL.out]
                    show n + 1 ≤ 2001
                    omega
                case measure => simp [intOf]; omega
    · obtain rfl : k = N := by omega
      have hl : l0 = Dg.parseP (Dg.L t) := by rw [← HL0.out, ← HN.out, itemsTo_all t (piecesB t) rfl]
      have hfew := hS.few
      rw [HL0.out, HNL.out] at hfew
      obtain ⟨S, E', hT⟩ : ∃ S E', Dg.textC l0 = (S, E') := ⟨_, _, rfl⟩
      have hz := HZ.out
      rw [← hl] at hz
      have hk := parse_kinds (Dg.L t)
      rw [← hl] at hk
      have hB := parseO_back hs hl hT
      rw [HO.out] at hB
      have hOw := hS.own
      rw [HL0.out] at hOw
      have HHB := hide hB; have HT := hide hT; have HW := hide (items_w hk hz); have HZ2 := hide hz
      clear hB hT hz hk hl HO HZ
      go_wp2_with fail
      refine (Code.text_of l0 AI n cI HNL.out HW.out (by omega) wr hIt HZ2.out S E' HT.out).mono ?_
      rintro e w9 ⟨rfl, hb9⟩
      have hr2 := iNext hS.r2 hb9
      have hrc := iNext hS.rc hb9
      have hO9 := OwnI.below hOw hb9
      have hBl := hS.bl.trans (hb9.mono hS.bl.size)
      clear hS hIt hOw hb9
      have hc1 := iCells0 hrc
      have hc2 := iCells0 hr2
      have fz2 := frozen_of_row _ _ 0 _ _ hr2
      by_cases hgood : E' = 0 ∧ S = t
      · obtain ⟨rfl, rfl⟩ := hgood
        have h9 := HHB.out
        rw [if_pos ⟨rfl, rfl⟩] at h9
        cases h9
        have eqT : (S.toList == S.toList) = true := beq_self_eq_true _
        go_wp2
        refine bodyPost_ret (results_ct9 Tryz.results24 _ _ w.heap.size 24 #[.slice AI n cI] (0, 0) _ rfl (setCell_row1 hr2 (.slice AI n cI)) Tryz.underlying24 (by kernel_rfl)) rfl ⟨⟨AI, cI, ?_, ?_, ?_⟩, hBl.setCell (p := ⟨w.heap.size, 0, none⟩) (Nat.le_refl _) _⟩
        · rw [HNL.out]; rfl
        · rw [HNL.out]; exact hcI
        · exact (hO9.far hr2 _).it'
      · have h9 := HHB.out
        rw [if_neg hgood] at h9
        cases h9
        have hret : ∀ a : Act, a.tmps.getD 3 undef = .int .i64 5 → True := fun _ _ => trivial
        by_cases hE0 : E' = 0
        · subst hE0
          have hne : S ≠ t := fun e => hgood ⟨rfl, e⟩
          have eqT : (S.toList == t.toList) = false := tl_no hne
          clear hgood HHB hne hret
          go_wp2
          refine bodyPost_ret (results_ct9 Tryz.results24 _ _ w.heap.size 24 #[.slice none 0 0] (0, 0) _ rfl (setCell_row1 hr2 (.slice none 0 0)) Tryz.underlying24 (by kernel_rfl)) rfl ⟨⟨none, 0, rfl, Nat.le_refl _, Its.nil _ _ _⟩, hBl.setCell (p := ⟨w.heap.size, 0, none⟩) (Nat.le_refl _) _⟩
        · have hbn : (E' != 0) = true := bne_iff_ne.2 hE0
          clear hgood HHB hret HT
          go_wp2
          refine bodyPost_ret (results_ct9 Tryz.results24 _ _ w.heap.size 24 #[.slice none 0 0] (0, 0) _ rfl (setCell_row1 hr2 (.slice none 0 0)) Tryz.underlying24 (by kernel_rfl)) rfl ⟨⟨none, 0, rfl, Nat.le_refl _, Its.nil _ _ _⟩, hBl.setCell (p := ⟨w.heap.size, 0, none⟩) (Nat.le_refl _) _⟩
end Go.Proofs.YtpldhempbdionaaGreatDoor
/- CodeBeginnings. No conditions but those that each theorem states. -/
namespace Go.Proofs.YtpldhempbdionaaGreatDoor
open Go Go.RowKit Go.Sort Go.Maps
theorem textC_few {l : List Dg.It} (hv : Dg.validC l = true) (h : fewC l 30 = true) : Dg.textC l = (Dg.B (Dg.textL l), 0) := by
  obtain ⟨h1, h2⟩ := fewC_spec h
  have h3 := Dg.textL_len l (fun x hx => (smallI_iff x).1 (h2 x hx))
  have h4 : l.length * 6100 ≤ 30 * 6100 := Nat.mul_le_mul_right _ h1
  unfold Dg.textC
  rw [if_pos hv, if_neg (by omega)]
end Go.Proofs.YtpldhempbdionaaGreatDoor
/- How long what a text is read as can be; texts tell codes apart. No conditions but those that each theorem states. -/
namespace Go.Proofs.YtpldhempbdionaaGreatDoor
open Go Go.RowKit Go.Sort Go.Maps
theorem lines_le : ∀ (t : List UInt8), ∀ l ∈ Dg.linesP t, l.length ≤ t.length
  | [], l, h => by cases h
  | c :: r, l, h => by
    rw [Dg.linesP] at h
    split at h
    · rcases List.mem_cons.1 h with rfl | h
      · simp
      · have := lines_le r l h
        simp only [List.length_cons]; omega
    · cases hl : Dg.linesP r with
      | nil =>
        rw [hl] at h
        rw [List.mem_singleton.1 h]
        simp
      | cons a ls =>
        rw [hl] at h
        have h1 := lines_le r
        rw [hl] at h1
        rcases List.mem_cons.1 h with rfl | h
        · have := h1 a (List.mem_cons_self ..)
          simp only [List.length_cons]; omega
        · have := h1 l (List.mem_cons_of_mem _ h)
          simp only [List.length_cons]; omega
theorem inside_le : ∀ (f : Nat) (r : List UInt8), (Dg.insideP f r).1.length + (Dg.insideP f r).2.length ≤ r.length
  | 0, r => by show 0 + r.length ≤ _; omega
  | f + 1, r => by
    have h := Dg.until_le [92, 34] r
    rw [Dg.insideP]
    cases hu : (Dg.untilP [92, 34] r).2 with
    | nil => rw [hu] at h; simpa using h
    | cons c r' =>
      rw [hu] at h
      simp only [List.length_cons] at h
      simp only
      split
      · have := inside_le f r'
        simp only [List.length_append, List.length_cons]
        omega
      · simp only [List.length_cons]; omega
theorem quote_le (r : List UInt8) : (Dg.quoteP r).1.length + (Dg.quoteP r).2.length ≤ r.length := by
  have h1 := Dg.until_le [34] r
  have h2 := inside_le r.length (Dg.untilP [34] r).2
  unfold Dg.quoteP
  simp only [List.length_tail]
  omega
theorem dash_le (l : List UInt8) : (Dg.dashL l).size ≤ l.length := by
  unfold Dg.dashL
  split
  · exact Nat.zero_le _
  · exact Nat.le_refl _
theorem kindW_size (x : Dg.It) : (Dg.kindW x).size = 1 := by
  unfold Dg.kindW
  split
  · rfl
  · split <;> rfl
theorem parse_fields (l : List UInt8) : ∀ s ∈ Dg.fieldsI (Dg.parseLineP l), s.size ≤ l.length + 1 := fun s hs => by
  have h1 := Dg.until_le [32] l
  have h2 := Dg.until_le [32] (Dg.untilP [32] l).2
  have h3 := Dg.until_le [32] (Dg.untilP [32] (Dg.untilP [32] l).2).2
  have h4 := Dg.until_le [32, 10] (Dg.untilP [32] (Dg.untilP [32] (Dg.untilP [32] l).2).2).2
  have h5 := quote_le (Dg.untilP [32, 10] (Dg.untilP [32] (Dg.untilP [32] (Dg.untilP [32] l).2).2).2).2
  have h6 := quote_le (Dg.quoteP (Dg.untilP [32, 10] (Dg.untilP [32] (Dg.untilP [32] (Dg.untilP [32] l).2).2).2).2).2
  have d1 := dash_le (Dg.untilP [32] (Dg.untilP [32] (Dg.untilP [32] l).2).2).1
  have d2 := dash_le (Dg.untilP [32, 10] (Dg.untilP [32] (Dg.untilP [32] (Dg.untilP [32] l).2).2).2).1
  have hB : ∀ m : List UInt8, (Dg.B m).size = m.length := fun _ => rfl
  unfold Dg.fieldsI at hs
  rcases List.mem_cons.1 hs with rfl | hs
  · rw [kindW_size]; omega
  · unfold Dg.parseLineP at hs
    simp only at hs
    split at hs <;>
      (simp only [List.mem_cons, List.not_mem_nil, or_false] at hs
       rcases hs with rfl | rfl | rfl | rfl | rfl <;> first | (rw [hB]; omega) | (refine Nat.le_trans d1 ?_; omega) | (refine Nat.le_trans d2 ?_; omega) | exact Nat.zero_le _)
theorem parse_small {t : ByteArray} {z : Nat} (hz : t.size + 1 ≤ z) : ∀ x ∈ Dg.parseP (Dg.L t), ∀ s ∈ Dg.fieldsI x, s.size ≤ z := fun x hx s hs => by
  unfold Dg.parseP at hx
  obtain ⟨l, hl, rfl⟩ := List.mem_map.1 hx
  have h1 := parse_fields l s hs
  have h2 := lines_le _ l hl
  rw [Dg.len_L] at h2
  omega
theorem text_inj {l m : List Dg.It} (hl : Dg.validC l = true) (hm : Dg.validC m = true) (h : Dg.B (Dg.textL l) = Dg.B (Dg.textL m)) : l = m := by
  have h1 : Dg.textL l = Dg.textL m := by have := congrArg Dg.L h; rwa [Dg.L_B, Dg.L_B] at this
  have h2 := Dg.parse_text hl
  rw [h1, Dg.parse_text hm] at h2
  exact h2.symm
theorem text_small {l : List Dg.It} (h : fewC l 30 = true) : (Dg.textL l).length ≤ 183000 := by
  obtain ⟨h1, h2⟩ := fewC_spec h
  have h3 := Dg.textL_len l (fun x hx => (smallI_iff x).1 (h2 x hx))
  have h4 : l.length * 6100 ≤ 30 * 6100 := Nat.mul_le_mul_right _ h1
  omega
theorem parse_empty : Dg.parseO ⟨#[]⟩ = ([], 0) := by
  have h1 : Dg.parseP (Dg.L ⟨#[]⟩) = [] := rfl
  have h2 : Dg.goodT (Dg.L ⟨#[]⟩) [] := ⟨by decide +kernel, rfl⟩
  unfold Dg.parseO
  rw [if_neg (by decide), h1, if_pos h2]
end Go.Proofs.YtpldhempbdionaaGreatDoor
/- CodeDigests. No conditions but those that each theorem states. -/
namespace Go.Proofs.YtpldhempbdionaaGreatDoor
open Go Go.RowKit Go.Sort Go.Maps
end Go.Proofs.YtpldhempbdionaaGreatDoor

