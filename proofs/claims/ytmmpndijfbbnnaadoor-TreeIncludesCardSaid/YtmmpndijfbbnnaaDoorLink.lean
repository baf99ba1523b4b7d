/- Link of package tree. -/
import Derived.Test.YtmmpndijfbbnnaaDoorPath
namespace Go.Proofs.YtmmpndijfbbnnaaDoor
open Go Go.RowKit Go.Sort
set_option maxRecDepth 100000 in
set_option maxHeartbeats 1000000 in
theorem link_any (A0 : Option Addr) (c0 n0 : Nat) (l0 : List ByteArray) (i0 : Nat) (w : World) (hn0 : l0.length = n0) (he : Env w) (hc0 : n0 ≤ c0) (hl0 : n0 ≤ 1048576) (hs0 : ∀ s ∈ l0, s.size ≤ 1073741824) (hS0 : Strs w w.heap.size A0 l0) (hi : i0 ≤ n0) (hi1 : 1 ≤ i0) :
    Calls Tryd.prog 19 #[.slice A0 n0 c0, .int .i64 i0] w fun e w' => ∃ A c n, e = .returned (.tuple #[.slice A n c, .int .i64 0]) ∧ (Dg.link l0 i0 true).length = n ∧ n ≤ c ∧ Strs w' w'.heap.size A (Dg.link l0 i0 true) ∧ Below w.heap.size w w' := by
  go_enter Tryd.func19, Tryd.ntmps19
  have hs0' := hide hs0; clear hs0
  have k1 : ¬ (n0 < i0) := by omega
  have k2 : ¬ ((i0 : Int) < 0) := by omega
  have k3 : ¬ ((n0 : Int) < (i0 : Int)) := by omega
  have k4 : ¬ (i0 = 0) := by omega
  have k5 : ¬ ((i0 : Int) = 0) := by omega
  go_wp2
  go_loopw [0, 1, 6, 7] (fun lv iv ov bv wr => ∃ (A : Option Addr) (c n i : Nat) (l out : List ByteArray) (wh : Bool), bv = .bool wh ∧ 1 ≤ i ∧ lv = .slice A n c ∧ iv = .int .i64 i ∧ l.length = n ∧ n ≤ c ∧ i ≤ n ∧ n ≤ 1048576 ∧ Hid (∀ s ∈ l, s.size ≤ 1073741824) ∧ Strs wr w.heap.size A l ∧ OwnS wr w.heap.size ov out ∧
    Hid (Dg.link l0 i0 true = Dg.link l i wh ++ out.reverse) ∧ out.length + n ≤ l0.length ∧ Below w.heap.size w wr) (fun lv _ _ _ _ => lenV lv)
  case atStart => exact ⟨A0, c0, n0, i0, l0, [], true, rfl, hi1, rfl, rfl, hn0, hc0, hi, hl0, hs0', hS0, OwnS.nil _ _, by unfold Hid; simp, by simp; omega, Below.refl _ _⟩
  case round =>
    obtain ⟨A, c, n, i, l, out, wh, rfl, hi1', rfl, rfl, hln, hc, hin, hn, hs, hS, hO, hp, hlen, hb⟩ := hrel
    have hew := he.next hb
    by_cases h1 : i < n
    · have g1 := Dg.half_pos n
      have g2 := Dg.half_lt n (by omega)
      have pf := hide (fun h => Dg.link_fst l i wh (by omega) (by omega) h)
      have ps := hide (fun h => Dg.link_snd l i wh (by omega) h)
      rw [hln] at pf ps
      have i1 := hide (fun (W : World) (hE : Env W) (hST : Strs W W.heap.size A (l.take (Dg.half n))) => root_of (Dg.half n) A c (l.take (Dg.half n)) _ W (by rw [List.length_take]; omega) rfl hE (by omega) (by omega) (fun s hs' => hs.out s (List.mem_of_mem_take hs')) hST)
      have i2 := hide (fun (W : World) (hE : Env W) (hST : Strs W W.heap.size (offA A (Dg.half n) c) (l.drop (Dg.half n))) => root_of (n - Dg.half n) (offA A (Dg.half n) c) (c - Dg.half n) (l.drop (Dg.half n)) _ W (by rw [List.length_drop, hln]) rfl hE (by omega) (by omega) (fun s hs' => hs.out s (List.mem_of_mem_drop hs')) hST)
      have e1 := hide (show (l.take (Dg.half n)).length = Dg.half n by rw [List.length_take]; omega)
      have e2 := hide (show (l.drop (Dg.half n)).length = n - Dg.half n by rw [List.length_drop]; omega)
      have z1 := root_size (l.take (Dg.half n))
      have z2 := root_size (l.drop (Dg.half n))
      have m1 := hide (fun s hs' => hs.out s (List.mem_of_mem_take (i := Dg.half n) hs'))
      have m2 := hide (fun s hs' => hs.out s (List.mem_of_mem_drop (i := Dg.half n) hs'))
      have hS1 := hS.take (Dg.half n)
      have hS2 := hS.drop (c := c) (by omega) (Dg.half n)
      go_wp2_with fail
      refine (half_any n (by omega) _).mono ?_
      rintro e w1 ⟨rfl, rfl⟩
      generalize Dg.half n = m at *
      generalize hX : Dg.root (l.take m) = X at *
      generalize hY : Dg.root (l.drop m) = Y at *
      clear hX hY
      have s1 := slice_to A n c m (by omega)
      have s2 := slice_from A n c m (by omega)
      have hsz := hb.size
      by_cases him : i ≤ m
      · go_wp2_with fail
        refine (i2.out _ hew (hS2.more hsz)).mono ?_
        rintro e w1 ⟨rfl, hb1⟩
        have hb2 := bnext hb hb1
        have hO1 := hO.below hb1
        have hS11 := hS1.below (hb1.mono hsz)
        have hz1 := hb1.size
        go_wp2_with (at_builtin; refine step_s w1 rfl (.tmp 29) (.tmp 34) rfl Y w.heap.size _ out rfl hO1 rfl (by omega) (by omega) ?_; intro v' w2 hO2 hb3)
        have hb4 := hb2.trans hb3
        go_roundw
        case rel => exact ⟨A, c, m, i, l.take m, out ++ [Y], wh, rfl, hi1', rfl, rfl, e1.out, by omega, him, by omega, m1, hS11.below hb3, hO2, by unfold Hid; rw [hp.out, pf.out him, List.append_assoc, List.reverse_append]; rfl, by rw [List.length_append, List.length_singleton]; omega, hb4⟩
        case measure => simp [lenV]; omega
      · go_wp2_with fail
        refine (i1.out _ hew (hS1.more hsz)).mono ?_
        rintro e w1 ⟨rfl, hb1⟩
        have hb2 := bnext hb hb1
        have hO1 := hO.below hb1
        have hS21 := hS2.below (hb1.mono hsz)
        have hz1 := hb1.size
        go_wp2_with (at_builtin; refine step_s w1 rfl (.tmp 39) (.tmp 44) rfl X w.heap.size _ out rfl hO1 rfl (by omega) (by omega) ?_; intro v' w2 hO2 hb3)
        have hb4 := hb2.trans hb3
        go_roundw
        case rel => exact ⟨offA A m c, c - m, n - m, i - m, l.drop m, out ++ [X], false, rfl, by omega, rfl, by go_num, e2.out, by omega, by omega, by omega, m2, hS21.below hb3, hO2, by unfold Hid; rw [hp.out, ps.out him, List.append_assoc, List.reverse_append]; rfl, by rw [List.length_append, List.length_singleton]; omega, hb4⟩
        case measure => simp [lenV]; omega
    · obtain rfl : i = n := by omega
      have hsz := hb.size
      have hp1 := hp.out
      have la := hide (Dg.link_all l wh)
      rw [hln] at la
      have hiW := hide (fun (W : World) (hE : Env W) (hST : Strs W W.heap.size A l) => root_of i A c l _ W hln rfl hE hc hn hs.out hST)
      cases wh with
      | true =>
        rw [la.out] at hp1
        have hp2 := hide (hp1.trans (List.nil_append _)); clear hp1
        go_wp2_with fail
        refine (reverse_any w.heap.size _ out _ hO hsz (by omega)).mono ?_
        rintro e w1 ⟨rfl, ⟨A1, c1, rfl, hc1, hS1⟩, hb1⟩
        go_wp2
        go_ret2
        rw [hp2.out]
        exact ⟨_, _, _, rfl, by rw [List.length_reverse], by omega, hS1, hb.trans hb1⟩
      | false =>
        rw [la.out] at hp1
        generalize hX : Dg.root l = X at *
        have hp2 : Hid (Dg.link l0 i0 true = (out ++ [X]).reverse) := by
          unfold Hid; rw [List.reverse_append]; exact hp1
        clear hp1 hX
        go_wp2_with fail
        refine (hiW.out _ hew (hS.more hsz)).mono ?_
        rintro e w1 ⟨rfl, hb1⟩
        have hb2 := bnext hb hb1
        have hO1 := hO.below hb1
        have hz1 := hb1.size
        go_wp2_with (first | (at_builtin; refine step_s w1 rfl (.tmp 54) (.tmp 57) rfl X w.heap.size _ out rfl hO1 rfl (by omega) (by omega) ?_; intro v' w2 hO2 hb3) | fail)
        have hb4 := hb2.trans hb3
        refine (reverse_any w.heap.size _ (out ++ [X]) _ hO2 hb4.size (by rw [List.length_append, List.length_singleton]; omega)).mono ?_
        rintro e w3 ⟨rfl, ⟨A1, c1, rfl, hc1, hS1⟩, hb5⟩
        go_wp2
        go_ret2
        rw [hp2.out]
        exact ⟨_, _, _, rfl, by rw [List.length_reverse, List.length_append, List.length_singleton], by rw [List.length_append, List.length_singleton] at hc1; exact hc1, hS1, hb4.trans hb5⟩
end Go.Proofs.YtmmpndijfbbnnaaDoor
