/- PathTexts and LinkTexts of the reference. -/
import Derived.Test.YtmmpndijfbbnnaaDoorTexts2
namespace Go.Proofs.YtmmpndijfbbnnaaDoor
open Go Go.RowKit Go.Sort
theorem pt_len (n : Nat) : ∀ (i : Nat) (s : ByteArray) (r : List ByteArray), 1 ≤ n → i < n → (Dg.pathTexts n i s r).length = Dg.length n i + 1 := by
  induction n using Nat.strongRecOn with
  | _ n ih =>
  intro i s r h1 hi
  by_cases h : n ≤ 1
  · rw [Dg.pathTexts_one _ _ _ _ h, Dg.length_one _ _ h]; rfl
  · have g1 := Dg.half_pos n
    have g2 := Dg.half_lt n (by omega)
    by_cases hh : i < Dg.half n
    · rw [Dg.pathTexts_fst n i s r (by omega) hh, Dg.length_fst n i (by omega) hh, len_snoc, ih (Dg.half n) g2 i s r.tail g1 hh]; omega
    · rw [Dg.pathTexts_snd n i s r (by omega) hh, Dg.length_snd n i (by omega) hh, len_snoc, ih (n - Dg.half n) (by omega) (i - Dg.half n) s r.tail (by omega) (by omega)]; omega
theorem pt_size (n : Nat) : ∀ (i : Nat) (s : ByteArray) (r : List ByteArray), s.size ≤ 1048576 → (∀ x ∈ r, x.size ≤ 1048576) → ∀ t ∈ Dg.pathTexts n i s r, t.size ≤ 4194304 := by
  have hhd : ∀ r : List ByteArray, (∀ s ∈ r, s.size ≤ 1048576) → (r.headD ⟨#[]⟩).size ≤ 1048576 := fun r h => by
    cases r with
    | nil => decide
    | cons a r => exact h a (List.mem_cons_self ..)
  induction n using Nat.strongRecOn with
  | _ n ih =>
  intro i s r hs hr t ht
  by_cases h : n ≤ 1
  · rw [Dg.pathTexts_one _ _ _ _ h, List.mem_singleton] at ht
    rw [ht]; exact jB_size _ (by simp) (mem2 (by decide) hs)
  · have g1 := Dg.half_pos n
    have g2 := Dg.half_lt n (by omega)
    by_cases hh : i < Dg.half n
    · rw [Dg.pathTexts_fst n i s r (by omega) hh] at ht
      rcases List.mem_append.1 ht with ht | ht
      · exact ih (Dg.half n) g2 i s r.tail hs (fun x hx => hr x (List.mem_of_mem_tail hx)) t ht
      · rw [List.mem_singleton] at ht
        rw [ht]; exact jB_size _ (by simp) (mem3 (by decide) (by rw [up_sz _ _ (Dg.leafB s) _ (listB_size _)]; decide) (hhd r hr))
    · rw [Dg.pathTexts_snd n i s r (by omega) hh] at ht
      rcases List.mem_append.1 ht with ht | ht
      · exact ih (n - Dg.half n) (by omega) _ s r.tail hs (fun x hx => hr x (List.mem_of_mem_tail hx)) t ht
      · rw [List.mem_singleton] at ht
        rw [ht]; exact jB_size _ (by simp) (mem3 (by decide) (hhd r hr) (by rw [up_sz _ _ (Dg.leafB s) _ (listB_size _)]; decide))
set_option maxRecDepth 100000 in
set_option maxHeartbeats 1000000 in
theorem rpt_any (n : Nat) : ∀ (i : Nat) (A : Option Addr) (c k : Nat) (s : ByteArray) (p : List ByteArray) (w : World), p.length = k → Dg.length n i = k → 1 ≤ n → i < n → n ≤ 1048576 → k ≤ c →
    s.size ≤ 1048576 → (∀ x ∈ p, x.size ≤ 1048576) → Strs w w.heap.size A p →
    Calls Tryd.prog 30 #[.int .i64 n, .int .i64 i, .string s, .slice A k c] w fun e w' => (∃ v, e = .returned v ∧ OwnS w' w.heap.size v (Dg.pathTexts n i s p.reverse)) ∧ Below w.heap.size w w' := by
  induction n using Nat.strongRecOn with
  | _ n ih =>
  intro i A c k s p w hpk hlk h1 hi hn hc hss hs hS
  by_cases hone : n = 1
  · subst hone
    clear ih hs
    rw [Dg.pathTexts_one _ _ _ _ (Nat.le_refl _)]
    have hm := hide (mem2 (a := Dg.sLeaf) (n := 1048576) (by decide) hss)
    generalize hX : Dg.jB [Dg.sLeaf, s] = X
    have HX := hide hX; clear hX
    go_enter Tryd.func30, Tryd.ntmps30
    go_wp2_with fail
    refine (joined_new [Dg.sLeaf, s] _ _ 2 _ rfl (len2 _ _) hm.out X HX.out w rfl _ rfl).mono ?_
    rintro e w1 ⟨rfl, hb1⟩
    go_wp2
    go_ret
    exact ⟨⟨_, rfl, own_new w1 X _ hb1.size⟩, hb1.alloc hb1.size _⟩
  · have g1 := Dg.half_pos n
    have g2 := Dg.half_lt n (by omega)
    have n1 : ((n : Int) == 1) = false := ieq_f (by omega)
    have pf := hide (fun h => (Dg.length_fst n i (by omega) h).symm.trans hlk)
    have ps := hide (fun h => (Dg.length_snd n i (by omega) h).symm.trans hlk)
    have uf := hide (fun h => Dg.pathTexts_fst n i s p.reverse (by omega) h)
    have us := hide (fun h => Dg.pathTexts_snd n i s p.reverse (by omega) h)
    have hk1 : 1 ≤ k := by
      by_cases him : i < Dg.half n
      · have := pf.out him; omega
      · have := ps.out him; omega
    have hkn : k ≤ n := hlk ▸ length_le n i
    clear hlk
    subst hpk
    rw [rev_tail, rev_head p (by omega)] at uf us
    have hlast := hs p[p.length - 1] (List.getElem_mem (by omega))
    have i1 := hide (fun (W : World) (h : i < Dg.half n) (hST : Strs W W.heap.size A (p.take (p.length - 1))) => ih (Dg.half n) g2 i A c (p.length - 1) s (p.take (p.length - 1)) W (by rw [List.length_take]; omega) (by have := pf.out h; omega) g1 h (by omega) (by omega) hss (fun s h => hs s (List.mem_of_mem_take h)) hST)
    have g4 : 1 ≤ n - Dg.half n := by omega
    have i2 := hide (fun (W : World) (h : ¬ i < Dg.half n) (hST : Strs W W.heap.size A (p.take (p.length - 1))) => ih (n - Dg.half n) (by omega) (i - Dg.half n) A c (p.length - 1) s (p.take (p.length - 1)) W (by rw [List.length_take]; omega) (by have := ps.out h; omega) g4 (by omega) (by omega) (by omega) hss (fun s h => hs s (List.mem_of_mem_take h)) hST)
    have u1 := hide (fun (W : World) (h : i < Dg.half n) (hST : Strs W W.heap.size A (p.take (p.length - 1))) => rup_any (Dg.half n) i A c (p.length - 1) (Dg.leafB s) (p.take (p.length - 1)) _ W (by rw [List.length_take]; omega) (by have := pf.out h; omega) rfl g1 h (by omega) (by omega) (by rw [Dg.leafB, listB_size]; decide) (fun s h => hs s (List.mem_of_mem_take h)) hST)
    have u2 := hide (fun (W : World) (h : ¬ i < Dg.half n) (hST : Strs W W.heap.size A (p.take (p.length - 1))) => rup_any (n - Dg.half n) (i - Dg.half n) A c (p.length - 1) (Dg.leafB s) (p.take (p.length - 1)) _ W (by rw [List.length_take]; omega) (by have := ps.out h; omega) rfl g4 (by omega) (by omega) (by omega) (by rw [Dg.leafB, listB_size]; decide) (fun s h => hs s (List.mem_of_mem_take h)) hST)
    have z1 := up_sz (Dg.half n) i (Dg.leafB s) (p.take (p.length - 1)).reverse (listB_size _)
    have z2 := up_sz (n - Dg.half n) (i - Dg.half n) (Dg.leafB s) (p.take (p.length - 1)).reverse (listB_size _)
    have q1 : i < Dg.half n → (Dg.pathTexts (Dg.half n) i s (p.take (p.length - 1)).reverse).length ≤ 1048577 := fun h => by rw [pt_len _ _ _ _ g1 h]; have := length_le (Dg.half n) i; omega
    have q2 : ¬ i < Dg.half n → (Dg.pathTexts (n - Dg.half n) (i - Dg.half n) s (p.take (p.length - 1)).reverse).length ≤ 1048577 := fun h => by rw [pt_len _ _ _ _ g4 (by omega)]; have := length_le (n - Dg.half n) (i - Dg.half n); omega
    have Q1 := hide q1; have Q2 := hide q2; clear q1 q2
    clear ih hs
    have hS1 := hS.take (p.length - 1)
    obtain ⟨b, off, rfl, hbl, hcell⟩ := hS.get (k := p.length - 1) (by omega)
    go_enter Tryd.func30, Tryd.ntmps30
    go_wp2_with fail
    refine (rhalf_any n (by omega) _).mono ?_
    rintro e w1 ⟨rfl, rfl⟩
    generalize Dg.half n = m at *
    generalize hq : p.take (p.length - 1) = q at *
    clear hq
    generalize Dg.up m i (Dg.leafB s) q.reverse = X at *
    generalize Dg.up (n - m) (i - m) (Dg.leafB s) q.reverse = Y at *
    generalize Dg.pathTexts m i s q.reverse = T1 at *
    generalize Dg.pathTexts (n - m) (i - m) s q.reverse = T2 at *
    generalize p[p.length - 1] = last at *
    clear hS
    generalize p.length = k at *
    obtain ⟨j, rfl⟩ : ∃ j, k = j + 1 := ⟨k - 1, by omega⟩
    rw [Nat.add_sub_cancel] at hcell i1 i2 u1 u2
    have s1 := slice_to (some ⟨b, off, none⟩) (j + 1) c j (by omega)
    by_cases him : i < m
    · have hr := hide (uf.out him); clear uf us
      have hl := Q1.out him; clear Q1 Q2
      generalize hJ : Dg.jB [Dg.sNode, X, last] = J at *
      have HJ := hide hJ; clear hJ
      have hm := hide (mem3 (a := Dg.sNode) (b := X) (c := last) (n := 1048576) (by decide) (by omega) hlast)
      go_wp2_with fail
      refine (i1.out _ him hS1).mono ?_
      rintro e w1 ⟨⟨v, rfl, hO⟩, hb1⟩
      go_wp2_with fail
      refine (rleaf_any s hss _).mono ?_
      rintro e w2 ⟨rfl, hb2⟩
      have hb12 := bnext hb1 hb2
      go_wp2_with fail
      refine (u1.out _ him (keepS hS1 hb12)).mono ?_
      rintro e w3 ⟨rfl, hb3⟩
      have hb13 := bnext hb12 hb3
      go_wp2_with fail
      refine (joined_new [Dg.sNode, X, last] _ _ 3 _ rfl (len3 _ _ _) hm.out J HJ.out w3 rfl _ rfl).mono ?_
      rintro e w4 ⟨rfl, hb4⟩
      have hb14 := bnext hb13 hb4
      have hO4 := ((hO.below hb2).below hb3).below hb4
      go_wp2_with (at_builtin; refine step_s w4 rfl (.tmp 38) (.tmp 48) rfl J w.heap.size _ T1 rfl hO4 rfl (by omega) hb14.size ?_; intro v' w5 hO5 hb5)
      go_ret
      rw [hr.out]
      exact ⟨⟨_, rfl, hO5⟩, hb14.trans hb5⟩
    · have hr := hide (us.out him); clear uf us
      have hl := Q2.out him; clear Q1 Q2
      generalize hJ : Dg.jB [Dg.sNode, last, Y] = J at *
      have HJ := hide hJ; clear hJ
      have hm := hide (mem3 (a := Dg.sNode) (b := last) (c := Y) (n := 1048576) (by decide) hlast (by omega))
      have c1 : (n : Int) - (m : Int) = ((n - m : Nat) : Int) := by omega
      have c2 : (i : Int) - (m : Int) = ((i - m : Nat) : Int) := by omega
      go_wp2_with fail
      refine (i2.out _ him hS1).mono ?_
      rintro e w1 ⟨⟨v, rfl, hO⟩, hb1⟩
      go_wp2_with fail
      refine (rleaf_any s hss _).mono ?_
      rintro e w2 ⟨rfl, hb2⟩
      have hb12 := bnext hb1 hb2
      go_wp2_with fail
      refine (u2.out _ him (keepS hS1 hb12)).mono ?_
      rintro e w3 ⟨rfl, hb3⟩
      have hb13 := bnext hb12 hb3
      go_wp2_with fail
      refine (joined_new [Dg.sNode, last, Y] _ _ 3 _ rfl (len3 _ _ _) hm.out J HJ.out w3 rfl _ rfl).mono ?_
      rintro e w4 ⟨rfl, hb4⟩
      have hb14 := bnext hb13 hb4
      have hO4 := ((hO.below hb2).below hb3).below hb4
      go_wp2_with (at_builtin; refine step_s w4 rfl (.tmp 58) (.tmp 72) rfl J w.heap.size _ T2 rfl hO4 rfl (by omega) hb14.size ?_; intro v' w5 hO5 hb5)
      go_ret
      rw [hr.out]
      exact ⟨⟨_, rfl, hO5⟩, hb14.trans hb5⟩
end Go.Proofs.YtmmpndijfbbnnaaDoor
