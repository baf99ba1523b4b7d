/- Path of package tree. -/
import Derived.Test.YtmmpndijfbbnnaaDoorOwnS
namespace Go.Proofs.YtmmpndijfbbnnaaDoor
open Go Go.RowKit Go.Sort
def lenV : Value → Nat
  | .slice _ n _ => n
  | _ => 0
set_option maxRecDepth 100000 in
set_option maxHeartbeats 1000000 in
theorem path_any (A0 : Option Addr) (c0 n0 : Nat) (l0 : List ByteArray) (i0 : Nat) (w : World) (hn0 : l0.length = n0) (he : Env w) (hc0 : n0 ≤ c0) (hl0 : n0 ≤ 1048576) (hs0 : ∀ s ∈ l0, s.size ≤ 1073741824) (hS0 : Strs w w.heap.size A0 l0) (hi : i0 < n0) :
    Calls Tryd.prog 17 #[.slice A0 n0 c0, .int .i64 i0] w fun e w' => ∃ A c n, e = .returned (.tuple #[.slice A n c, .int .i64 0]) ∧ (Dg.path l0 i0).length = n ∧ n ≤ c ∧ Strs w' w'.heap.size A (Dg.path l0 i0) ∧ Below w.heap.size w w' := by
  go_enter Tryd.func17, Tryd.ntmps17
  have hs0' := hide hs0; clear hs0
  have k1 : ¬ (n0 ≤ i0) := by omega
  have k2 : ¬ ((i0 : Int) < 0) := by omega
  have k3 : ¬ ((n0 : Int) ≤ (i0 : Int)) := by omega
  go_wp2
  go_loopw [0, 1, 6] (fun lv iv ov wr => ∃ (A : Option Addr) (c n i : Nat) (l out : List ByteArray), lv = .slice A n c ∧ iv = .int .i64 i ∧ l.length = n ∧ n ≤ c ∧ i < n ∧ n ≤ 1048576 ∧ Hid (∀ s ∈ l, s.size ≤ 1073741824) ∧ Strs wr w.heap.size A l ∧ OwnS wr w.heap.size ov out ∧
    Hid (Dg.path l0 i0 = Dg.path l i ++ out.reverse) ∧ out.length + n ≤ l0.length ∧ Below w.heap.size w wr) (fun lv _ _ _ => lenV lv)
  case atStart => exact ⟨A0, c0, n0, i0, l0, [], rfl, rfl, hn0, hc0, hi, hl0, hs0', hS0, OwnS.nil _ _, by unfold Hid; simp, by simp; omega, Below.refl _ _⟩
  case round =>
    obtain ⟨A, c, n, i, l, out, rfl, rfl, hln, hc, hin, hn, hs, hS, hO, hp, hlen, hb⟩ := hrel
    have hew := he.next hb
    by_cases h1 : 1 < n
    · have g1 := Dg.half_pos n
      have g2 := Dg.half_lt n (by omega)
      have pf := hide (fun h => Dg.path_fst l i (by omega) h)
      have ps := hide (fun h => Dg.path_snd l i (by omega) h)
      rw [hln] at pf ps
      have i1 := hide (fun (W : World) (hE : Env W) (hST : Strs W W.heap.size A (l.take (Dg.half n))) => root_of (Dg.half n) A c (l.take (Dg.half n)) _ W (by rw [List.length_take]; omega) rfl hE (by omega) (by omega) (fun s hs' => hs.out s (List.mem_of_mem_take hs')) hST)
      have i2 := hide (fun (W : World) (hE : Env W) (hST : Strs W W.heap.size (offA A (Dg.half n) c) (l.drop (Dg.half n))) => root_of (n - Dg.half n) (offA A (Dg.half n) c) (c - Dg.half n) (l.drop (Dg.half n)) _ W (by rw [List.length_drop, hln]) rfl hE (by omega) (by omega) (fun s hs' => hs.out s (List.mem_of_mem_drop hs')) hST)
      have e1 := hide (show (l.take (Dg.half n)).length = Dg.half n by rw [List.length_take]; omega)
      have e2 := hide (show (l.drop (Dg.half n)).length = n - Dg.half n by rw [List.length_drop]; omega)
      have z1 := root_size (l.take (Dg.half n))
      have z2 := root_size (l.drop (Dg.half n))
      have m1 := hide (fun s hs' => hs.out s (List.mem_of_mem_take (i := Dg.half n) hs'))
      have m2 := hide (fun s hs' => hs.out s (List.mem_of_mem_drop (i := Dg.half n) hs'))
      have hS1 := hS.take (Dg.half n)
      have hS2 := hS.drop (c := c) (by omega) (Dg.half n)
      go_wp2_with fail
      refine (half_any n (by omega) _).mono ?_
      rintro e w1 ⟨rfl, rfl⟩
      generalize Dg.half n = m at *
      generalize hX : Dg.root (l.take m) = X at *
      generalize hY : Dg.root (l.drop m) = Y at *
      clear hX hY
      have s1 := slice_to A n c m (by omega)
      have s2 := slice_from A n c m (by omega)
      have hsz := hb.size
      by_cases him : i < m
      · go_wp2_with fail
        refine (i2.out _ hew (hS2.more hsz)).mono ?_
        rintro e w1 ⟨rfl, hb1⟩
        have hb2 := bnext hb hb1
        have hO1 := hO.below hb1
        have hS11 := hS1.below (hb1.mono hsz)
        have hz1 := hb1.size
        go_wp2_with (at_builtin; refine step_s w1 rfl (.tmp 25) (.tmp 30) rfl Y w.heap.size _ out rfl hO1 rfl (by omega) (by omega) ?_; intro v' w2 hO2 hb3)
        have hb4 := hb2.trans hb3
        go_roundw
        case rel => exact ⟨A, c, m, i, l.take m, out ++ [Y], rfl, rfl, e1.out, by omega, him, by omega, m1, hS11.below hb3, hO2, by unfold Hid; rw [hp.out, pf.out him, List.append_assoc, List.reverse_append]; rfl, by rw [List.length_append, List.length_singleton]; omega, hb4⟩
        case measure => simp [lenV]; omega
      · go_wp2_with fail
        refine (i1.out _ hew (hS1.more hsz)).mono ?_
        rintro e w1 ⟨rfl, hb1⟩
        have hb2 := bnext hb hb1
        have hO1 := hO.below hb1
        have hS21 := hS2.below (hb1.mono hsz)
        have hz1 := hb1.size
        go_wp2_with (at_builtin; refine step_s w1 rfl (.tmp 35) (.tmp 40) rfl X w.heap.size _ out rfl hO1 rfl (by omega) (by omega) ?_; intro v' w2 hO2 hb3)
        have hb4 := hb2.trans hb3
        go_roundw
        case rel => exact ⟨offA A m c, c - m, n - m, i - m, l.drop m, out ++ [X], rfl, by go_num, e2.out, by omega, by omega, by omega, m2, hS21.below hb3, hO2, by unfold Hid; rw [hp.out, ps.out him, List.append_assoc, List.reverse_append]; rfl, by rw [List.length_append, List.length_singleton]; omega, hb4⟩
        case measure => simp [lenV]; omega
    · go_wp2_with fail
      have hsz := hb.size
      refine (reverse_any w.heap.size _ out _ hO hsz (by omega)).mono ?_
      rintro e w1 ⟨rfl, ⟨A1, c1, rfl, hc1, hS1⟩, hb1⟩
      go_wp2
      go_ret2
      have hp1 := hp.out
      rw [Dg.path_short l i (by omega), List.nil_append] at hp1
      rw [hp1]
      exact ⟨_, _, _, rfl, by rw [List.length_reverse], by omega, hS1, hb.trans hb1⟩
set_option maxHeartbeats 400000 in
theorem path_bad (A0 : Option Addr) (c0 n0 : Nat) (i0 : Int) (w : World) (hi : i0 < 0 ∨ n0 ≤ i0) :
    Calls Tryd.prog 17 #[.slice A0 n0 c0, .int .i64 i0] w fun e w' => e = .returned (.tuple #[.slice none 0 0, .int .i64 1]) ∧ w = w' := by
  go_enter Tryd.func17, Tryd.ntmps17
  by_cases k2 : i0 < 0
  · go_wp2
    go_ret2
    exact ⟨rfl, rfl⟩
  · have k1 : (n0 : Int) ≤ i0 := by omega
    go_wp2
    go_ret2
    exact ⟨rfl, rfl⟩
end Go.Proofs.YtmmpndijfbbnnaaDoor
