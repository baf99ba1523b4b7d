/- up and digests of the reference. -/
import Derived.Test.YtmmpndijfbbnnaaDoorRLen
namespace Go.Proofs.YtmmpndijfbbnnaaDoor
open Go Go.RowKit Go.Sort
theorem rev_tail (p : List ByteArray) : p.reverse.tail = (p.take (p.length - 1)).reverse := by
  rw [List.tail_reverse, List.dropLast_eq_take]
theorem rev_head (p : List ByteArray) (h : p.length - 1 < p.length) : p.reverse.headD ⟨#[]⟩ = p[p.length - 1] := by
  rw [List.headD_eq_head?_getD, List.head?_reverse, List.getLast?_eq_getElem?, List.getElem?_eq_getElem h]
  rfl
theorem up_size (n : Nat) : ∀ (i : Nat) (d : ByteArray) (r : List ByteArray), d.size ≤ 1048576 → (Dg.up n i d r).size ≤ 1048576 := by
  induction n using Nat.strongRecOn with
  | _ n ih =>
  intro i d r hd
  by_cases h1 : n ≤ 1
  · rw [Dg.up_one _ _ _ _ h1]; exact hd
  · by_cases hi : i < Dg.half n
    · rw [Dg.up_fst _ _ _ _ (by omega) hi, Dg.nodeB, listB_size]; decide
    · rw [Dg.up_snd _ _ _ _ (by omega) hi, Dg.nodeB, listB_size]; decide
set_option maxHeartbeats 1000000 in
theorem rup_any (n : Nat) : ∀ (i : Nat) (A : Option Addr) (c k : Nat) (d : ByteArray) (p : List ByteArray) (R : ByteArray) (w : World), p.length = k → Dg.length n i = k → Dg.up n i d p.reverse = R → 1 ≤ n → i < n → n ≤ 1048576 → k ≤ c →
    d.size ≤ 1048576 → (∀ s ∈ p, s.size ≤ 1048576) → Strs w w.heap.size A p →
    Calls Tryd.prog 61 #[.int .i64 n, .int .i64 i, .string d, .slice A k c] w fun e w' => e = .returned (.string R) ∧ Below w.heap.size w w' := by
  induction n using Nat.strongRecOn with
  | _ n ih =>
  intro i A c k d p R w hpk hlk hR h1 hi hn hc hd hs hS
  go_enter Tryd.func61, Tryd.ntmps61
  by_cases hone : n = 1
  · subst hone
    rw [Dg.up_one _ _ _ _ (Nat.le_refl _)] at hR
    subst hR
    go_wp2
    go_ret
    exact ⟨rfl, Below.refl _ _⟩
  · have g1 := Dg.half_pos n
    have g2 := Dg.half_lt n (by omega)
    have pf := hide (fun h => (Dg.length_fst n i (by omega) h).symm.trans hlk)
    have ps := hide (fun h => (Dg.length_snd n i (by omega) h).symm.trans hlk)
    have uf := hide (fun h => hR.symm.trans (Dg.up_fst n i d p.reverse (by omega) h))
    have us := hide (fun h => hR.symm.trans (Dg.up_snd n i d p.reverse (by omega) h))
    clear hR
    have hk1 : 1 ≤ k := by
      by_cases him : i < Dg.half n
      · have := pf.out him; omega
      · have := ps.out him; omega
    have hkn : k ≤ n := hlk ▸ length_le n i
    clear hlk
    subst hpk
    rw [rev_tail, rev_head p (by omega)] at uf us
    have hlast := hs p[p.length - 1] (List.getElem_mem (by omega))
    have i1 := hide (fun (W : World) (h : i < Dg.half n) (hST : Strs W W.heap.size A (p.take (p.length - 1))) => ih (Dg.half n) g2 i A c (p.length - 1) d (p.take (p.length - 1)) _ W (by rw [List.length_take]; omega) (by have := pf.out h; omega) rfl g1 h (by omega) (by omega) hd (fun s h => hs s (List.mem_of_mem_take h)) hST)
    have g4 : 1 ≤ n - Dg.half n := by omega
    have i2 := hide (fun (W : World) (h : ¬ i < Dg.half n) (hST : Strs W W.heap.size A (p.take (p.length - 1))) => ih (n - Dg.half n) (by omega) (i - Dg.half n) A c (p.length - 1) d (p.take (p.length - 1)) _ W (by rw [List.length_take]; omega) (by have := ps.out h; omega) rfl g4 (by omega) (by omega) (by omega) hd (fun s h => hs s (List.mem_of_mem_take h)) hST)
    clear ih hs
    have z1 := up_size (Dg.half n) i d (p.take (p.length - 1)).reverse hd
    have z2 := up_size (n - Dg.half n) (i - Dg.half n) d (p.take (p.length - 1)).reverse hd
    have hS1 := hS.take (p.length - 1)
    obtain ⟨b, off, rfl, hbl, hcell⟩ := hS.get (k := p.length - 1) (by omega)
    go_wp2_with fail
    refine (rhalf_any n (by omega) _).mono ?_
    rintro e w1 ⟨rfl, rfl⟩
    generalize Dg.half n = m at *
    generalize p.take (p.length - 1) = q at *
    generalize hX : Dg.up m i d q.reverse = X at *
    generalize hY : Dg.up (n - m) (i - m) d q.reverse = Y at *
    clear hX hY
    generalize p[p.length - 1] = last at *
    clear hS
    generalize p.length = k at *
    obtain ⟨j, rfl⟩ : ∃ j, k = j + 1 := ⟨k - 1, by omega⟩
    rw [Nat.add_sub_cancel] at hcell i1 i2
    have s1 := slice_to (some ⟨b, off, none⟩) (j + 1) c j (by omega)
    by_cases him : i < m
    · have hr := hide (uf.out him); clear uf us
      go_wp2_with fail
      refine (i1.out _ him hS1).mono ?_
      rintro e w1 ⟨rfl, hb1⟩
      go_wp2_with fail
      refine (rnode_any X last z1 hlast _).mono ?_
      rintro e w2 ⟨rfl, hb2⟩
      go_wp2
      go_ret
      exact ⟨ret_str hr.out.symm, bnext hb1 hb2⟩
    · have hr := hide (us.out him); clear uf us
      have c1 : (n : Int) - (m : Int) = ((n - m : Nat) : Int) := by omega
      have c2 : (i : Int) - (m : Int) = ((i - m : Nat) : Int) := by omega
      go_wp2_with fail
      refine (i2.out _ him hS1).mono ?_
      rintro e w1 ⟨rfl, hb1⟩
      go_wp2_with fail
      refine (rnode_any last Y hlast z2 _).mono ?_
      rintro e w2 ⟨rfl, hb2⟩
      go_wp2
      go_ret
      exact ⟨ret_str hr.out.symm, bnext hb1 hb2⟩
end Go.Proofs.YtmmpndijfbbnnaaDoor
