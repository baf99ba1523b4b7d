/- Walks and laws of this seat, several texts in one: VN. No conditions but those that each theorem states. -/
import Derived.Test.YtgncahnkkpjdpaaDoorNA5
/- VoteOnce. No conditions but those that each theorem states. -/
namespace Go.Proofs.YtgncahnkkpjdpaaDoor
open Go Go.RowKit Go.Sort Go.Maps
theorem boolInfo : (Tryd.prog.info? 4).map (fun i => (i.zero, i.size, i.bytes)) = some (some (.bool false), 1, 1) := by kernel_rfl
/-- Who has voted, as the statement keeps it. -/
def seenL (n : Nat) (S : List Int) : List Value := (List.range n).map fun j => .bool (S.contains ((j : Nat) : Int))
theorem seenL_nil (n : Nat) : seenL n [] = List.replicate n (.bool false) := by
  unfold seenL
  refine List.eq_replicate_iff.2 ⟨by rw [List.length_map, List.length_range], fun b hb => ?_⟩
  obtain ⟨j, _, rfl⟩ := List.mem_map.1 hb
  rfl
theorem seenL_len (n : Nat) (S : List Int) : (seenL n S).length = n := by unfold seenL; rw [List.length_map, List.length_range]
theorem seenL_get (n : Nat) (S : List Int) (j : Nat) (h : j < n) : (seenL n S)[j]? = some (.bool (S.contains ((j : Nat) : Int))) := by
  unfold seenL; rw [List.getElem?_map, List.getElem?_range h]; rfl
theorem seenL_set (n : Nat) (S : List Int) (m : Nat) (h : m < n) : (seenL n S).set m (.bool true) = seenL n ((m : Int) :: S) := by
  refine List.ext_getElem? fun j => ?_
  rcases Nat.lt_or_ge j n with hj | hj
  · rw [seenL_get n _ j hj]
    by_cases e : m = j
    · subst e
      rw [List.getElem?_set_self (by rw [seenL_len]; exact h)]
      simp
    · rw [List.getElem?_set_ne e, seenL_get n S j hj]
      have : ((j : Nat) : Int) ≠ (m : Int) := by omega
      simp [this]
  · rw [List.getElem?_eq_none (by rw [List.length_set, seenL_len]; exact hj), List.getElem?_eq_none (by rw [seenL_len]; exact hj)]
theorem OwnV.cellAt {w : World} {B g n cap : Nat} {T : TypeId} {xs : List Value} (h : OwnV w B T (.slice (some ⟨g, 0, none⟩) n cap) xs) {j : Nat} {u : Value} (hj : xs[j]? = some u) : w.cell? ⟨g, j, none⟩ = some u ∧ w.frozen? ⟨g, j, none⟩ = false := by
  rcases h.2 with ⟨h0, _⟩ | ⟨g', cap', cur, h0, _, hg, _, _, hsz, hx⟩
  · injection h0 with h1 _ _; cases h1
  · injection h0 with h1 h2 h3
    injection h1 with h1
    injection h1 with h1 _ _
    subst h1
    refine ⟨?_, frozen_of_row _ _ _ _ _ hg⟩
    rw [cell_of_row _ _ _ _ _ (0, 0) hg, ← Array.getElem?_toList]
    have h4 : (cur.toList.take (xs.length * 1))[j]? = some u := by rw [hx]; exact hj
    rw [List.getElem?_take] at h4
    split at h4
    · exact h4
    · exact absurd h4 (by simp)
set_option maxRecDepth 100000 in
set_option maxHeartbeats 8000000 in
theorem law_once (ch q nu de : Int) (A : Option Addr) (n e : Nat) (K : List ByteArray) (text : ByteArray) (AV : Option Addr) (nV eV : Nat) (l : List Dg.Vt) (w : World) (he : Env w) (hK : K.length = n) (kn : n ≤ 9223372036854775807) (hkz : ∀ s ∈ K, s.size ≤ 9223372036854775807) (hS : Strs w w.heap.size A K) (htz : text.size ≤ 9223372036854775807) (hl : l.length = nV) (hn : nV ≤ 9223372036854775807) (hv : ∀ v ∈ l, VtW v) (hV : Vts w w.heap.size AV l) :
    Calls Tryd.prog 4 #[.agg #[.int .i64 ch, .slice A n e, .int .i64 q, .int .i64 nu, .int .i64 de], .string text, .slice AV nV eV] w fun r w' => r = .returned (.bool true) ∧ Below w.heap.size w w' := by
  have HK := hide hK; have HKZ := hide hkz; have HL := hide hl; have HV := hide hv
  have hH : LS w.heap.size [] A K AV l w := ⟨OwnL.nil _ _, hS, hV, he⟩
  have hb := Below.refl w.heap.size w
  replace hH := hH.lit hb.size #[.int .i64 ch, .slice A n e, .int .i64 q, .int .i64 nu, .int .i64 de] 24 5 rfl (by unfold maxLen; omega)
  replace hb := bnext hb (Below.news (Below.refl w.heap.size w) (.cells #[.int .i64 ch, .slice A n e, .int .i64 q, .int .i64 nu, .int .i64 de] 24))
  clear hK hkz hl hv hS hV he
  obtain ⟨bi, bi1, bi2, bi3, bi4⟩ := info_parts boolInfo
  go_enter Tryd.func4, Tryd.ntmps4
  go_wp2_with fail
  generalize (w.alloc (.cells #[.int .i64 ch, .slice A n e, .int .i64 q, .int .i64 nu, .int .i64 de] 24)) = W0 at *
  refine (head39_any _ hH.env).mono ?_
  rintro r w1 ⟨rfl, hb1⟩
  replace hH := hH.below hb1
  replace hb := bnext hb hb1
  clear hb1
  obtain ⟨r0, r1, r2, r3, r4⟩ := cells5 (hH.row (List.mem_cons_self ..))
  go_wp2_with fail
  cases hfew : fewVB K l 8 with
  | false =>
    refine (few39_of ch q nu de A n e K AV nV eV l false hfew _ HK.out kn HKZ.out hH.key HL.out hn HV.out hH.vts).mono ?_
    rintro r w2 ⟨rfl, hb2⟩
    replace hH := hH.below hb2
    replace hb := bnext hb hb2
    clear hb2
    clear hfew
    go_wp2
    go_ret
    exact ⟨rfl, hb⟩
  | true =>
    have F := few_spec hfew
    have HF := hide hfew; clear hfew
    refine (few39_of ch q nu de A n e K AV nV eV l true HF.out _ HK.out kn HKZ.out hH.key HL.out hn HV.out hH.vts).mono ?_
    rintro r w2 ⟨rfl, hb2⟩
    replace hH := hH.below hb2
    replace hb := bnext hb hb2
    clear hb2
    clear r0 r1 r2 r3 r4
    have kn2 : n ≤ 10 := by rw [← HK.out]; exact F.nk
    have hn2 : nV ≤ 8 := by rw [← HL.out]; exact F.nl
    have KZ := hide F.key
    have VZ := hide (F.vt0 HV.out)
    clear F HF HKZ HV
    obtain ⟨r0, r1, r2, r3, r4⟩ := cells5 (hH.row (List.mem_cons_self ..))
    by_cases h100 : text.size ≤ 100
    rotate_left
    · have d1 : decide ((100 : Int) < (text.size : Int)) = true := dec_t (by omega)
      have d2 : decide (100 < text.size) = true := dec_t (by omega)
      clear h100
      go_wp2
      go_ret
      exact ⟨rfl, hb⟩
    have d1 : decide ((100 : Int) < (text.size : Int)) = false := dec_f (by omega)
    have d2 : decide (100 < text.size) = false := dec_f (by omega)
    go_wp2_with fail
    obtain ⟨Y, hY⟩ : ∃ Y, (Dg.cnt ⟨ch, K, q, nu, de⟩ text l).yes = Y := ⟨_, rfl⟩
    obtain ⟨X, hX⟩ : ∃ X, (Dg.cnt ⟨ch, K, q, nu, de⟩ text l).no = X := ⟨_, rfl⟩
    obtain ⟨Bd, hBd⟩ : ∃ Bd, (Dg.cnt ⟨ch, K, q, nu, de⟩ text l).bad = Bd := ⟨_, rfl⟩
    have hsum := cnt_sum ⟨ch, K, q, nu, de⟩ text l
    rw [hY, hX, hBd, HL.out] at hsum
    have hkeys := Dg.count_keys ⟨ch, K, q, nu, de⟩ text l
    rw [hY, hX] at hkeys
    replace hkeys : Y + X ≤ n := by rw [← HK.out]; exact hkeys
    have HY := hide hY; have HX := hide hX; have HBd := hide hBd; clear hY hX hBd
    have hbl : (Bd.map Int.ofNat).length = Bd.length := List.length_map _
    refine (counted_of ch q nu de A n e K text AV nV eV l _ hH.env HK.out (by omega) KZ.out hH.key HL.out (by omega) VZ.out hH.vts (Y : Int) (X : Int) (Bd.map Int.ofNat) (by rw [HY.out]) (by rw [HX.out]) (by rw [HBd.out]) Bd.length hbl).mono ?_
    rintro r w5 ⟨Ab, cb, rfl, hNm, hb5⟩
    replace hH := hH.below hb5
    replace hb := bnext hb hb5
    clear hb5
    clear r0 r1 r2 r3 r4
    obtain ⟨r0, r1, r2, r3, r4⟩ := cells5 (hH.row (List.mem_cons_self ..))
    clear d1 d2 h100
    generalize hbn : Bd.length = bn at *
    have d3 : decide ((Y : Int) < 0) = false := dec_f (by omega)
    have d4 : decide ((X : Int) < 0) = false := dec_f (by omega)
    have d5 : ((Y : Int) + (X : Int) + (bn : Int) != (nV : Int)) = false := by rw [bne_eq_false_iff_eq]; omega
    have d5' : ((Y : Int) + (X : Int) + (bn : Int) == (nV : Int)) = true := by rw [beq_iff_eq]; omega
    have d6 : decide ((n : Int) < (Y : Int) + (X : Int)) = false := dec_f (by omega)
    go_wp2_with (at_make; go_loud (refine wpList_make_full _ rfl _ _ 40 rfl w5.heap.size 4 bi _ 1 Tryd.underlying40 bi1 bi2 bi3 _ _ _ _ n rfl rfl rfl rfl (by rw [bi4]; omega) (by unfold maxLen; omega) (Nat.le_refl _) ?_); intro w6 ho hgr)
    have hO : OwnV w6 w5.heap.size 4 (.slice (some ⟨w5.heap.size, 0, none⟩) n n) (seenL n []) := by
      unfold OwnV
      rw [seenL_nil, List.length_replicate]
      have h5 := ho
      rw [show n * 1 = n by omega] at h5
      rw [← toList_madeCells_one]
      exact h5
    have hb6 : Below w5.heap.size w5 w6 := below_own (World.ownsRow_nil w5 w5.heap.size 4 1) hgr (Nat.le_refl _)
    clear ho hgr d3 d4 d5 d5' d6
    clear r0 r1 r2 r3 r4
    go_loopw [12, 13, 14, 15] (fun kv yv iv _ wr => ∃ i : Nat, i ≤ nV ∧ iv = .int .i64 (i : Int) ∧ kv = .int .i64 ((Dg.cntP ⟨ch, K, q, nu, de⟩ text l i).bad.length : Int) ∧ yv = .int .i64 ((Dg.cntP ⟨ch, K, q, nu, de⟩ text l i).yes : Int) ∧ OwnV wr w5.heap.size 4 (.slice (some ⟨w5.heap.size, 0, none⟩) n n) (seenL n (Dg.cntP ⟨ch, K, q, nu, de⟩ text l i).seen) ∧ Below w5.heap.size w5 wr) (fun _ _ iv _ _ => nV - (intOf iv).toNat)
    case atStart =>
      refine ⟨0, Nat.zero_le _, rfl, ?_, ?_, ?_, hb6⟩
      · rw [Dg.cntP_zero]; rfl
      · rw [Dg.cntP_zero]; rfl
      · rw [Dg.cntP_zero]; exact hO
    case round =>
      obtain ⟨i, hi, rfl, rfl, rfl, hOr, hbr⟩ := hrel
      have hHr := hH.below hbr
      have hNr := hNm.keep hbr
      by_cases hlt : i < nV
      rotate_left
      · obtain rfl : i = nV := by omega
        have s1 : (Dg.cntP ⟨ch, K, q, nu, de⟩ text l i).bad.length = bn := by rw [← HL.out, ← Dg.cnt_P, HBd.out]; exact hbn
        have s2 : (Dg.cntP ⟨ch, K, q, nu, de⟩ text l i).yes = Y := by rw [← HL.out, ← Dg.cnt_P, HY.out]
        rw [s1, s2]
        have f1 : ((bn : Int) == (bn : Int)) = true := beq_self_eq_true _
        have f2 : ((Y : Int) == (Y : Int)) = true := beq_self_eq_true _
        clear s1 s2 hOr
        go_wp2
        go_ret
        exact ⟨rfl, bnext hb hbr⟩
      have hil : i < l.length := by rw [HL.out]; exact hlt
      have hi0 : (0 : Int) ≤ (i : Int) := by omega
      have hin : (i : Int) < (nV : Int) := by omega
      obtain ⟨b, off, rfl, hbl2, A1, A2, e1, e2, hvin, hcc⟩ := hH.vts.get hil
      have hcj := fun j u hu => (hbr.cell (p := ⟨b, off + i * 7 + j, none⟩) hbl2).trans (hcc j u hu)
      cases hok : Dg.okP ⟨ch, K, q, nu, de⟩ text l i with
      | false =>
        obtain ⟨ht1, ht2⟩ := Dg.bad_at ⟨ch, K, q, nu, de⟩ text l i hil hok
        have hst := Dg.cntP_bad ⟨ch, K, q, nu, de⟩ text l i hil hok
        rw [HBd.out] at ht1
        have hy2 : (Dg.cntP ⟨ch, K, q, nu, de⟩ text l (i + 1)).yes = (Dg.cntP ⟨ch, K, q, nu, de⟩ text l i).yes := by rw [hst]
        have hs2 : (Dg.cntP ⟨ch, K, q, nu, de⟩ text l (i + 1)).seen = (Dg.cntP ⟨ch, K, q, nu, de⟩ text l i).seen := by rw [hst]
        have hk2 : (Dg.cntP ⟨ch, K, q, nu, de⟩ text l (i + 1)).bad.length = (Dg.cntP ⟨ch, K, q, nu, de⟩ text l i).bad.length + 1 := by rw [ht2, List.length_append]; rfl
        clear hst ht2 hok hcj hcc
        generalize (Dg.cntP ⟨ch, K, q, nu, de⟩ text l i).bad.length = t at *
        generalize (Dg.cntP ⟨ch, K, q, nu, de⟩ text l i).yes = y at *
        generalize (Dg.cntP ⟨ch, K, q, nu, de⟩ text l i).seen = S at *
        have HK2 := hide hk2; have HY2 := hide hy2; have HS2 := hide hs2; clear hk2 hy2 hs2
        have htl : t < bn := by rw [← hbn]; exact (List.getElem?_eq_some_iff.1 ht1).1
        obtain ⟨b', off', rfl, hb', hcell⟩ := hNr.get (k := t) (by rw [hbl]; exact htl)
        have hval : (Bd.map Int.ofNat)[t]'(by rw [List.length_map, hbn]; exact htl) = (i : Int) := by
          have h1 : (Bd.map Int.ofNat)[t]? = some (i : Int) := by rw [List.getElem?_map, ht1]; rfl
          exact (List.getElem?_eq_some_iff.1 h1).2
        rw [hval] at hcell
        have ht0 : (0 : Int) ≤ (t : Int) := by omega
        have htn : (t : Int) < (bn : Int) := by omega
        have heq : ((i : Int) == (i : Int)) = true := beq_self_eq_true _
        clear hval ht1
        go_wp2
        go_roundw
        case rel => exact ⟨i + 1, by omega, by go_num, by rw [HK2.out]; go_num, by rw [HY2.out], by rw [HS2.out]; exact hOr, hbr⟩
        case measure => simp [intOf]; omega
      | true =>
        have hst := Dg.cntP_ok ⟨ch, K, q, nu, de⟩ text l i hil hok
        obtain ⟨hp, hns, hvb⟩ := Dg.okP_spec hil hok
        obtain ⟨v1, v2, v3, v4, _⟩ := Dg.validB_spec hvb
        replace v4 : l[i].mem < (n : Int) := by rw [← HK.out]; exact v4
        replace v1 : l[i].cham = ch := v1
        have hno := hide (Dg.bad_not ⟨ch, K, q, nu, de⟩ text l i hok)
        have hz := VZ.out l[i] (List.getElem_mem hil)
        generalize l[i] = v at *
        have hy2 : (Dg.cntP ⟨ch, K, q, nu, de⟩ text l (i + 1)).yes = if v.yes then (Dg.cntP ⟨ch, K, q, nu, de⟩ text l i).yes + 1 else (Dg.cntP ⟨ch, K, q, nu, de⟩ text l i).yes := by rw [hst]
        have hs2 : (Dg.cntP ⟨ch, K, q, nu, de⟩ text l (i + 1)).seen = v.mem :: (Dg.cntP ⟨ch, K, q, nu, de⟩ text l i).seen := by rw [hst]
        have hk2 : (Dg.cntP ⟨ch, K, q, nu, de⟩ text l (i + 1)).bad.length = (Dg.cntP ⟨ch, K, q, nu, de⟩ text l i).bad.length := by rw [hst]
        have hyl : (Dg.cntP ⟨ch, K, q, nu, de⟩ text l i).yes ≤ 8 := by have := Dg.cntP_sum ⟨ch, K, q, nu, de⟩ text l i (by omega); omega
        clear hst hok hp hvb hcc
        generalize (Dg.cntP ⟨ch, K, q, nu, de⟩ text l i).bad.length = t at *
        generalize (Dg.cntP ⟨ch, K, q, nu, de⟩ text l i).yes = y at *
        generalize (Dg.cntP ⟨ch, K, q, nu, de⟩ text l i).seen = S at *
        have HK2 := hide hk2; have HY2 := hide hy2; have HS2 := hide hs2; clear hk2 hy2 hs2
        obtain ⟨m, hm⟩ : ∃ m : Nat, v.mem = (m : Int) := ⟨v.mem.toNat, by omega⟩
        have hmn : m < n := by omega
        rw [hm] at hns HS2
        have hsf : S.contains (m : Int) = false := by
          cases hc : S.contains (m : Int) with
          | false => rfl
          | true => exact absurd (List.contains_iff_mem.1 hc) hns
        have p0 : wr.cell? ⟨b, off + i * 7, none⟩ = some (.int .i64 (m : Int)) := by rw [← hm]; exact hcj 0 _ rfl
        have p1 : wr.cell? ⟨b, off + i * 7 + 1, none⟩ = some (.string text) := by rw [← v2]; exact hcj 1 _ rfl
        have p2 : wr.cell? ⟨b, off + i * 7 + 2, none⟩ = some (.int .i64 ch) := by rw [← v1]; exact hcj 2 _ rfl
        have p3 : wr.cell? ⟨b, off + i * 7 + 3, none⟩ = some (.bool v.yes) := hcj 3 _ rfl
        clear hcj hns v1 v2 v3 v4
        have hc7 := (hOr.cellAt (seenL_get n S m hmn)).1
        rw [hsf] at hc7
        have hm0 : (0 : Int) ≤ (m : Int) := by omega
        have hmn2 : (m : Int) < (n : Int) := by omega
        have d3 : decide ((m : Int) < 0) = false := dec_f (by omega)
        have d4 : decide ((n : Int) ≤ (m : Int)) = false := dec_f (by omega)
        have d4' : decide (n ≤ m) = false := dec_f (by omega)
        have d7 : (text.toList == text.toList) = true := beq_self_eq_true _
        have d8 : (ch == ch) = true := beq_self_eq_true _
        have d9 : (ch != ch) = false := by rw [bne, d8]; rfl
        have ht0 : (0 : Int) ≤ (t : Int) := by omega
        go_upto_region 13 with (fail)
        go_cut [82] from 71 to 82 (fun v wx => v = .bool false ∧ wx = wr)
        case first =>
          by_cases htl : t < bn
          · obtain ⟨b', off', rfl, hb', hcell⟩ := hNr.get (k := t) (by rw [hbl]; exact htl)
            obtain ⟨x, hx2⟩ : ∃ x : Int, (Bd.map Int.ofNat)[t]'(by rw [List.length_map, hbn]; exact htl) = x := ⟨_, rfl⟩
            rw [hx2] at hcell
            have hxj : (x == (i : Int)) = false := by
              refine beq_eq_false_iff_ne.2 fun e => ?_
              have h1 : (Bd.map Int.ofNat)[t]? = some (i : Int) := List.getElem?_eq_some_iff.2 ⟨_, hx2.trans e⟩
              rw [List.getElem?_map] at h1
              cases hq : Bd[t]? with
              | none => rw [hq] at h1; cases h1
              | some y =>
                rw [hq] at h1
                have h2 : Int.ofNat y = (i : Int) := by simpa using h1
                have h3 : y = i := by have : (y : Int) = (i : Int) := h2; omega
                subst h3
                exact hno.out t (by rw [HBd.out]; exact hq)
            have htn : (t : Int) < (bn : Int) := by omega
            clear hx2
            go_wp2_with fail
            go_meet
            exact ⟨rfl, rfl⟩
          · have f1 : decide ((t : Int) < (bn : Int)) = false := dec_f (by omega)
            go_wp2_with fail
            go_meet
            exact ⟨rfl, rfl⟩
        case rest =>
          obtain ⟨rfl, rfl⟩ := hcut
          generalize wc = wq at *
          obtain ⟨r0, r1, r2, r3, r4⟩ := cells5 (hHr.row (List.mem_cons_self ..))
          go_upto_region 16 with (fail)
          go_cut [122] from 90 to 122 (fun v wx => v = .bool false ∧ Below wq.heap.size wq wx)
          case first =>
            go_quiet (fail)
            go_wp2_with fail
            go_meet
            exact ⟨rfl, below_drewN (Below.refl _ _) _⟩
          case rest =>
            obtain ⟨rfl, hb7⟩ := hcut
            have hO7 := hOr.below hb7
            have hbr7 := bnext hbr hb7
            have q3 : wc.cell? ⟨b, off + i * 7 + 3, none⟩ = some (.bool v.yes) := (hb7.cell (block_lt_of_cell p3)).trans p3
            obtain ⟨hc8, hf8⟩ := hO7.cellAt (seenL_get n S m hmn)
            rw [hsf] at hc8
            have hO9 := hO7.set m (.bool true)
            rw [seenL_set n S m hmn] at hO9
            have hb9 := hbr7.setCell (p := ⟨w5.heap.size, m, none⟩) (Nat.le_refl _) (.bool true)
            have q3z : (wc.setCell ⟨w5.heap.size, m, none⟩ (.bool true)).cell? ⟨b, off + i * 7 + 3, none⟩ = some (.bool v.yes) := (World.cell?_setCell_far _ _ _ _ (by show w5.heap.size ≠ b; omega)).trans q3
            clear p0 p1 p2 p3 hc7 r0 r1 r2 r3 r4 d3 d4 d4' d7 d8 d9 q3 hOr hO7 hHr hNr hno
            go_upto_region 19 with (fail)
            clear hc8 hf8
            generalize wc.setCell ⟨w5.heap.size, m, none⟩ (.bool true) = wz at *
            cases hy : v.yes with
            | false =>
              rw [hy] at q3z HY2
              go_wp2
              go_roundw
              case rel => exact ⟨i + 1, by omega, by go_num, by rw [HK2.out], by rw [HY2.out]; rfl, by rw [HS2.out]; exact hO9, hb9⟩
              case measure => simp [intOf]; omega
            | true =>
              rw [hy] at q3z HY2
              go_wp2
              go_roundw
              case rel => exact ⟨i + 1, by omega, by go_num, by rw [HK2.out], by rw [HY2.out]; go_num, by rw [HS2.out]; exact hO9, hb9⟩
              case measure => simp [intOf]; omega
end Go.Proofs.YtgncahnkkpjdpaaDoor

