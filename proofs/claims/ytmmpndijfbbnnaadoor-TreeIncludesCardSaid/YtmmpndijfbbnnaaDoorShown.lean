/- Shown of the reference: true where two different strings of the list have one digest. -/
import Derived.Test.YtmmpndijfbbnnaaDoorTexts
namespace Go.Proofs.YtmmpndijfbbnnaaDoor
open Go Go.RowKit Go.Sort
def pairAt (l : List ByteArray) (i k : Nat) : Prop := ∃ a b, l[i]? = some a ∧ l[k]? = some b ∧ a ≠ b ∧ Dg.sumB a = Dg.sumB b
theorem shown_pair {l : List ByteArray} (h : Dg.Shown l) : ∃ i k, k < i ∧ i < l.length ∧ pairAt l i k := by
  obtain ⟨a, ha, b, hb, hne, he⟩ := h
  obtain ⟨i, hi⟩ := List.mem_iff_getElem?.1 ha
  obtain ⟨k, hk⟩ := List.mem_iff_getElem?.1 hb
  rcases Nat.lt_trichotomy k i with h | h | h
  · exact ⟨i, k, h, (List.getElem?_eq_some_iff.1 hi).1, a, b, hi, hk, hne, he⟩
  · subst h
    exact absurd (Option.some.inj (hi.symm.trans hk)) hne
  · exact ⟨k, i, h, (List.getElem?_eq_some_iff.1 hk).1, b, a, hk, hi, hne.symm, he.symm⟩
theorem rsum_of (s r : ByteArray) (hr : Dg.sumB s = r) (hs : s.size ≤ 4611686018427387904) (w : World) :
    Calls Tryd.prog 42 #[.string s] w fun e w' => e = .returned (.string r) ∧ w = w' := by
  subst hr; exact rsum_any s hs w
theorem sum_ne {x y : ByteArray} (h : Dg.sumB x ≠ Dg.sumB y) : ((Dg.sumB x).toList == (Dg.sumB y).toList) = false := tl_false h
set_option maxRecDepth 100000 in
set_option maxHeartbeats 1000000 in
theorem shown_any (A : Option Addr) (c n : Nat) (l : List ByteArray) (w : World) (hl : l.length = n) (hn : n ≤ 1048576) (hs : ∀ s ∈ l, s.size ≤ 4611686018427387904) (hS : Strs w w.heap.size A l) (hSh : Dg.Shown l) :
    Calls Tryd.prog 28 #[.slice A n c] w fun e w' => e = .returned (.bool true) ∧ Below w.heap.size w w' := by
  subst hl
  have HP := hide (shown_pair hSh); clear hSh
  have HZ := hide hs; clear hs
  go_enter Tryd.func28, Tryd.ntmps28
  go_wp2
  go_loopw [3, 4] (fun sv iv wr => ∃ k : Nat, k ≤ l.length ∧ iv = .int .i64 k ∧ Below w.heap.size w wr ∧ OwnS wr w.heap.size sv ((l.take k).map Dg.sumB)) (fun _ iv _ => l.length - (intOf iv).toNat)
  case atStart => exact ⟨0, by omega, rfl, Below.refl _ _, OwnS.nil _ _⟩
  case round =>
    obtain ⟨k, hk, rfl, hb, hO⟩ := hrel
    by_cases hlt : k < l.length
    · obtain ⟨b, off, rfl, hbl, hcell⟩ := (hS.below hb).get hlt
      have hsz := HZ.out l[k] (List.getElem_mem hlt)
      have hts : Hid ((l.take (k + 1)).map Dg.sumB = (l.take k).map Dg.sumB ++ [Dg.sumB l[k]]) := by
        unfold Hid; rw [List.take_succ_eq_append_getElem hlt, List.map_append]; rfl
      have hml : ((l.take k).map Dg.sumB).length = k := by rw [List.length_map, List.length_take]; omega
      have hml' := hide hml
      have hml2 : ((l.take k).map Dg.sumB).length < 1099511627776 := by omega
      clear hml
      generalize (l.take k).map Dg.sumB = q at *
      generalize l[k] = x at *
      have hsx : Hid (Dg.sumB x = Dg.sumB x) := rfl
      generalize hX : Dg.sumB x = X at *
      have HX := hide hX; clear hX
      go_wp2_with fail
      refine (rsum_of x X HX.out hsz _).mono ?_
      rintro e w1 ⟨rfl, rfl⟩
      go_wp2_with (at_builtin; refine step_s wr rfl (.tmp 13) (.tmp 19) rfl X w.heap.size _ q rfl hO rfl hml2 hb.size ?_; intro v' w2 hO2 hb2)
      go_roundw
      case rel => exact ⟨k + 1, by omega, by go_num, hb.trans hb2, by rw [hts.out]; exact hO2⟩
      case measure => simp [intOf]; omega
    · obtain rfl : k = l.length := by omega
      rw [List.take_length] at hO
      obtain ⟨A2, c2, hv, hc2, hS2⟩ := hO.strs
      have hml : (l.map Dg.sumB).length = l.length := List.length_map _
      rw [hml] at hv
      subst hv
      clear hml hO hc2
      have hS1 := keepS hS hb
      clear hS
      go_wp2
      go_loopw [5] (fun iv w2 => ∃ i : Nat, i ≤ l.length ∧ iv = .int .i64 i ∧ Below w.heap.size w w2 ∧ Strs w2 w2.heap.size A l ∧ Strs w2 w2.heap.size A2 (l.map Dg.sumB) ∧ Hid (∀ i' k', i' < i → k' < i' → ¬ pairAt l i' k')) (fun iv _ => l.length - (intOf iv).toNat)
      case atStart => exact ⟨0, by omega, rfl, hb, hS1, hS2, fun i' k' h _ => by omega⟩
      case round =>
        obtain ⟨i, hi, rfl, hbi, hSi, hSi2, hno⟩ := hrel
        by_cases hil : i < l.length
        · go_wp2
          go_loopw [6] (fun kv w3 => ∃ k : Nat, k ≤ i ∧ kv = .int .i64 k ∧ Below w.heap.size w w3 ∧ Strs w3 w3.heap.size A l ∧ Strs w3 w3.heap.size A2 (l.map Dg.sumB) ∧ Hid (∀ k', k' < k → ¬ pairAt l i k')) (fun kv _ => i - (intOf kv).toNat)
          case atStart => exact ⟨0, by omega, rfl, hbi, hSi, hSi2, fun k' h => by omega⟩
          case round =>
            obtain ⟨k, hki, rfl, hbk, hSk, hSk2, hnk⟩ := hrel
            by_cases hkl : k < i
            · obtain ⟨b, off, rfl, hbl, hcell⟩ := hSk.at_ (by omega)
              obtain ⟨b2, off2, rfl, hbl2, hcell2⟩ := hSk2.at_ (by rw [List.length_map]; omega)
              have a1 := hcell i l[i] (List.getElem?_eq_getElem hil)
              have a2 := hcell k l[k] (List.getElem?_eq_getElem (by omega))
              have a3 := hcell2 i (Dg.sumB l[i]) (by rw [List.getElem?_map, List.getElem?_eq_getElem hil]; rfl)
              have a4 := hcell2 k (Dg.sumB l[k]) (by rw [List.getElem?_map, List.getElem?_eq_getElem (by omega)]; rfl)
              clear hcell hcell2
              have hpn : Hid (Dg.sumB l[i] = Dg.sumB l[k] → l[i] = l[k] → ¬ pairAt l i k) := by
                intro _ he ⟨a, b, h1, h2, hne, _⟩
                rw [List.getElem?_eq_getElem hil] at h1
                rw [List.getElem?_eq_getElem (by omega)] at h2
                exact hne ((Option.some.inj h1).symm.trans (he.trans (Option.some.inj h2)))
              have hpn2 : Hid (Dg.sumB l[i] ≠ Dg.sumB l[k] → ¬ pairAt l i k) := by
                intro hne ⟨a, b, h1, h2, _, he⟩
                rw [List.getElem?_eq_getElem hil] at h1
                rw [List.getElem?_eq_getElem (by omega)] at h2
                obtain rfl := Option.some.inj h1
                obtain rfl := Option.some.inj h2
                exact hne he
              generalize l[i] = x at *
              generalize l[k] = y at *
              have hstep : ∀ (q : ¬ pairAt l i k), Hid (∀ k', k' < k + 1 → ¬ pairAt l i k') := fun q k' h => by
                by_cases h2 : k' = k
                · rw [h2]; exact q
                · exact hnk.out k' (by omega)
              have HST := hide hstep; clear hstep
              by_cases e1 : Dg.sumB x = Dg.sumB y
              · have t1 := tl_true e1
                by_cases e2 : x = y
                · have hq := hpn.out e1 e2
                  have t2 := tl_true e2
                  subst e2
                  have HQ := hide (HST.out hq); clear hq e1
                  go_wp2_with fail
                  go_quiet (fail)
                  go_wp2
                  go_roundw
                  case rel => exact ⟨k + 1, by omega, by go_num, below_drewN hbk nq, keepS hSk (below_drewN (Below.refl _ _) nq), keepS hSk2 (below_drewN (Below.refl _ _) nq), HQ.out⟩
                  case measure => simp [intOf]; omega
                · have t2 := tl_false e2
                  clear e1 e2
                  go_wp2_with fail
                  go_quiet (fail)
                  go_wp2
                  go_ret
                  exact ⟨rfl, below_drewN hbk nq⟩
              · have hq := hpn2.out e1
                have t1 := tl_false e1
                have HQ := hide (HST.out hq); clear hq e1
                go_wp2_with fail
                go_quiet (fail)
                go_wp2
                go_roundw
                case rel => exact ⟨k + 1, by omega, by go_num, below_drewN hbk nq, keepS hSk (below_drewN (Below.refl _ _) nq), keepS hSk2 (below_drewN (Below.refl _ _) nq), HQ.out⟩
                case measure => simp [intOf]; omega
            · obtain rfl : k = i := by omega
              go_wp2
              go_roundw
              case rel => exact ⟨k + 1, by omega, by go_num, hbk, hSk, hSk2, fun i' k' h h' => by
                by_cases h2 : i' = k
                · rw [h2]; exact hnk.out k' (by omega)
                · exact hno.out i' k' (by omega) h'⟩
              case measure => simp [intOf]; omega
        · obtain ⟨i', k', h1, h2, h3⟩ := HP.out
          exact absurd h3 (hno.out i' k' (by omega) h1)
end Go.Proofs.YtmmpndijfbbnnaaDoor
