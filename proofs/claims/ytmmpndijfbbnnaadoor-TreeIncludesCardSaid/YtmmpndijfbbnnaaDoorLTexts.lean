/- LinkTexts of the reference. -/
import Derived.Test.YtmmpndijfbbnnaaDoorPTexts
namespace Go.Proofs.YtmmpndijfbbnnaaDoor
open Go Go.RowKit Go.Sort
theorem lt_len (w : List Bool) : ∀ (wh : Bool) (old : ByteArray) (r : List ByteArray), (Dg.ltW w wh old r).length ≤ 2 * w.length := by
  induction w with
  | nil => intro wh old r; exact Nat.le_refl _
  | cons b w ih =>
    intro wh old r
    cases b with
    | true =>
      rw [Dg.ltW, len_snoc, List.length_cons]
      have := ih wh old r.tail
      omega
    | false =>
      rw [Dg.ltW, len_snoc, len_snoc, List.length_cons]
      have := ih false old r.tail
      omega
theorem way_len (n : Nat) : ∀ m, 1 ≤ m → m ≤ n → (Dg.way n m).length ≤ n := by
  induction n using Nat.strongRecOn with
  | _ n ih =>
  intro m h1 hm
  by_cases he : m = n
  · subst he; rw [Dg.way_all]; exact Nat.zero_le _
  · have g1 := Dg.half_pos n
    have g2 := Dg.half_lt n (by omega)
    by_cases hh : m ≤ Dg.half n
    · rw [Dg.way_fst n m h1 (by omega) hh, List.length_cons]
      have := ih (Dg.half n) g2 m h1 hh
      omega
    · rw [Dg.way_snd n m (by omega) hh, List.length_cons]
      have := ih (n - Dg.half n) (by omega) (m - Dg.half n) (by omega) (by omega)
      omega
theorem lt_len_le (n m : Nat) (wh : Bool) (old : ByteArray) (r : List ByteArray) (h1 : 1 ≤ m) (hm : m ≤ n) : (Dg.linkTexts n m wh old r).length ≤ 2 * n := by
  have h2 := lt_len (Dg.way n m) wh old r
  have h3 := way_len n m h1 hm
  unfold Dg.linkTexts
  omega
theorem hd_le {r : List ByteArray} (h : ∀ s ∈ r, s.size ≤ 1048576) : (r.headD ⟨#[]⟩).size ≤ 1048576 := by
  cases r with
  | nil => decide
  | cons a r => exact h a (List.mem_cons_self ..)
theorem lt_size (w : List Bool) : ∀ (wh : Bool) (old : ByteArray) (r : List ByteArray), old.size ≤ 1048576 → (∀ s ∈ r, s.size ≤ 1048576) → ∀ t ∈ Dg.ltW w wh old r, t.size ≤ 4194304 := by
  induction w with
  | nil => intro wh old r _ _ t ht; simp [Dg.ltW] at ht
  | cons b w ih =>
    intro wh old r ho hr t ht
    have hr' : ∀ s ∈ r.tail, s.size ≤ 1048576 := fun s hs => hr s (List.mem_of_mem_tail hs)
    cases b with
    | true =>
      have hb := bothW_le 1048576 (by decide) w wh old r.tail ho hr'
      rw [Dg.ltW] at ht
      rcases List.mem_append.1 ht with ht | ht
      · exact ih wh old r.tail ho hr' t ht
      · rw [List.mem_singleton.1 ht]; exact jB_size _ (by simp) (mem3 (by decide) hb.2 (hd_le hr))
    | false =>
      have hb := bothW_le 1048576 (by decide) w false old r.tail ho hr'
      rw [Dg.ltW] at ht
      rcases List.mem_append.1 ht with ht | ht
      · rcases List.mem_append.1 ht with ht | ht
        · exact ih false old r.tail ho hr' t ht
        · rw [List.mem_singleton.1 ht]; exact jB_size _ (by simp) (mem3 (by decide) (hd_le hr) hb.1)
      · rw [List.mem_singleton.1 ht]; exact jB_size _ (by simp) (mem3 (by decide) (hd_le hr) hb.2)
set_option maxRecDepth 100000 in
set_option maxHeartbeats 1000000 in
theorem rlt_any (n : Nat) : ∀ (i : Nat) (wh : Bool) (A : Option Addr) (c k : Nat) (old : ByteArray) (p : List ByteArray) (w : World), p.length = k → Dg.long n i wh = k → 1 ≤ i → i ≤ n → n ≤ 1048576 → k ≤ c →
    old.size ≤ 1048576 → (∀ x ∈ p, x.size ≤ 1048576) → Strs w w.heap.size A p →
    Calls Tryd.prog 31 #[.int .i64 n, .int .i64 i, .bool wh, .string old, .slice A k c] w fun e w' => (∃ v, e = .returned v ∧ OwnS w' w.heap.size v (Dg.linkTexts n i wh old p.reverse)) ∧ Below w.heap.size w w' := by
  induction n using Nat.strongRecOn with
  | _ n ih =>
  intro i wh A c k old p w hpk hlk h1 hi hn hc ho hs hS
  by_cases hone : i = n
  · subst hone
    clear ih hs
    rw [Dg.lt_all]
    go_enter Tryd.func31, Tryd.ntmps31
    go_wp2
    go_ret
    exact ⟨⟨_, rfl, OwnS.nil _ _⟩, Below.refl _ _⟩
  · have g1 := Dg.half_pos n
    have g2 := Dg.half_lt n (by omega)
    have n1 : ((i : Int) == (n : Int)) = false := ieq_f (by omega)
    have pf := hide (fun h => (Dg.long_fst n i wh h1 (by omega) h).symm.trans hlk)
    have ps := hide (fun h => (Dg.long_snd n i wh (by omega) h).symm.trans hlk)
    have uf := hide (fun h => Dg.lt_fst n i wh old p.reverse h1 (by omega) h)
    have us := hide (fun h => Dg.lt_snd n i wh old p.reverse (by omega) h)
    have hk1 : 1 ≤ k := by
      by_cases him : i ≤ Dg.half n
      · have := pf.out him; omega
      · have := ps.out him; omega
    have hkn : k ≤ n := hlk ▸ long_le n i wh h1 hi
    clear hlk
    subst hpk
    rw [rev_tail, rev_head p (by omega)] at uf us
    have hlast := hs p[p.length - 1] (List.getElem_mem (by omega))
    have i1 := hide (fun (W : World) (h : i ≤ Dg.half n) (hST : Strs W W.heap.size A (p.take (p.length - 1))) => ih (Dg.half n) g2 i wh A c (p.length - 1) old (p.take (p.length - 1)) W (by rw [List.length_take]; omega) (by have := pf.out h; omega) h1 h (by omega) (by omega) ho (fun s h => hs s (List.mem_of_mem_take h)) hST)
    have i2 := hide (fun (W : World) (h : ¬ i ≤ Dg.half n) (hST : Strs W W.heap.size A (p.take (p.length - 1))) => ih (n - Dg.half n) (by omega) (i - Dg.half n) false A c (p.length - 1) old (p.take (p.length - 1)) W (by rw [List.length_take]; omega) (by have := ps.out h; omega) (by omega) (by omega) (by omega) (by omega) ho (fun s h => hs s (List.mem_of_mem_take h)) hST)
    have u1 := hide (fun (W : World) (h : i ≤ Dg.half n) (hST : Strs W W.heap.size A (p.take (p.length - 1))) => rboth_any (Dg.half n) i wh A c (p.length - 1) old (p.take (p.length - 1)) _ _ W (by rw [List.length_take]; omega) (by have := pf.out h; omega) rfl rfl h1 h (by omega) (by omega) ho (fun s h => hs s (List.mem_of_mem_take h)) hST)
    have u2 := hide (fun (W : World) (h : ¬ i ≤ Dg.half n) (hST : Strs W W.heap.size A (p.take (p.length - 1))) => rboth_any (n - Dg.half n) (i - Dg.half n) false A c (p.length - 1) old (p.take (p.length - 1)) _ _ W (by rw [List.length_take]; omega) (by have := ps.out h; omega) rfl rfl (by omega) (by omega) (by omega) (by omega) ho (fun s h => hs s (List.mem_of_mem_take h)) hST)
    have z1 := bothW_le 1048576 (by decide) (Dg.way (Dg.half n) i) wh old (p.take (p.length - 1)).reverse ho (rtake_mem hs _)
    have z2 := bothW_le 1048576 (by decide) (Dg.way (n - Dg.half n) (i - Dg.half n)) false old (p.take (p.length - 1)).reverse ho (rtake_mem hs _)
    change (Dg.both (Dg.half n) i wh old (p.take (p.length - 1)).reverse).1.size ≤ _ ∧ (Dg.both (Dg.half n) i wh old (p.take (p.length - 1)).reverse).2.size ≤ _ at z1
    change (Dg.both (n - Dg.half n) (i - Dg.half n) false old (p.take (p.length - 1)).reverse).1.size ≤ _ ∧ (Dg.both (n - Dg.half n) (i - Dg.half n) false old (p.take (p.length - 1)).reverse).2.size ≤ _ at z2
    have q1 : i ≤ Dg.half n → (Dg.linkTexts (Dg.half n) i wh old (p.take (p.length - 1)).reverse).length ≤ 2097152 := fun h => by have := lt_len_le (Dg.half n) i wh old (p.take (p.length - 1)).reverse h1 h; omega
    have q2 : ¬ i ≤ Dg.half n → (Dg.linkTexts (n - Dg.half n) (i - Dg.half n) false old (p.take (p.length - 1)).reverse).length ≤ 2097152 := fun h => by have := lt_len_le (n - Dg.half n) (i - Dg.half n) false old (p.take (p.length - 1)).reverse (by omega) (by omega); omega
    have Q1 := hide q1; have Q2 := hide q2; clear q1 q2
    clear ih hs
    have hS1 := hS.take (p.length - 1)
    obtain ⟨b, off, rfl, hbl, hcell⟩ := hS.get (k := p.length - 1) (by omega)
    go_enter Tryd.func31, Tryd.ntmps31
    go_wp2_with fail
    refine (rhalf_any n (by omega) _).mono ?_
    rintro e w1 ⟨rfl, rfl⟩
    generalize Dg.half n = m at *
    generalize hq : p.take (p.length - 1) = q at *
    clear hq
    generalize (Dg.both m i wh old q.reverse).1 = X1 at *
    generalize (Dg.both m i wh old q.reverse).2 = X2 at *
    generalize (Dg.both (n - m) (i - m) false old q.reverse).1 = Y1 at *
    generalize (Dg.both (n - m) (i - m) false old q.reverse).2 = Y2 at *
    generalize Dg.linkTexts m i wh old q.reverse = T1 at *
    generalize Dg.linkTexts (n - m) (i - m) false old q.reverse = T2 at *
    generalize p[p.length - 1] = last at *
    clear hS
    generalize p.length = k at *
    obtain ⟨j, rfl⟩ : ∃ j, k = j + 1 := ⟨k - 1, by omega⟩
    rw [Nat.add_sub_cancel] at hcell i1 i2 u1 u2
    have s1 := slice_to (some ⟨b, off, none⟩) (j + 1) c j (by omega)
    by_cases him : i ≤ m
    · have hr := hide (uf.out him); clear uf us
      have hl := Q1.out him; clear Q1 Q2
      generalize hJ : Dg.jB [Dg.sNode, X2, last] = J at *
      have HJ := hide hJ; clear hJ
      have hm := hide (mem3 (a := Dg.sNode) (b := X2) (c := last) (n := 1048576) (by decide) z1.2 hlast)
      go_wp2_with fail
      refine (u1.out _ him hS1).mono ?_
      rintro e w1 ⟨rfl, hb1⟩
      go_wp2_with fail
      refine (i1.out _ him (keepS hS1 hb1)).mono ?_
      rintro e w2 ⟨⟨v, rfl, hO⟩, hb2⟩
      have hb12 := bnext hb1 hb2
      go_wp2_with fail
      refine (joined_new [Dg.sNode, X2, last] _ _ 3 _ rfl (len3 _ _ _) hm.out J HJ.out w2 rfl _ rfl).mono ?_
      rintro e w4 ⟨rfl, hb4⟩
      have hb14 := bnext hb12 hb4
      have hO4 := (hO.below hb4).base hb1.size
      go_wp2_with (at_builtin; refine step_s w4 rfl (.tmp 52) (.tmp 57) rfl J w.heap.size _ T1 rfl hO4 rfl (by omega) hb14.size ?_; intro v' w5 hO5 hb5)
      go_ret
      rw [hr.out]
      exact ⟨⟨_, rfl, hO5⟩, hb14.trans hb5⟩
    · have hr := hide (us.out him); clear uf us
      have hl := Q2.out him; clear Q1 Q2
      generalize hJ : Dg.jB [Dg.sNode, last, Y1] = J at *
      have HJ := hide hJ; clear hJ
      generalize hJ2 : Dg.jB [Dg.sNode, last, Y2] = J2 at *
      have HJ2 := hide hJ2; clear hJ2
      have hm := hide (mem3 (a := Dg.sNode) (b := last) (c := Y1) (n := 1048576) (by decide) hlast z2.1)
      have hm2 := hide (mem3 (a := Dg.sNode) (b := last) (c := Y2) (n := 1048576) (by decide) hlast z2.2)
      have c1 : (n : Int) - (m : Int) = ((n - m : Nat) : Int) := by omega
      have c2 : (i : Int) - (m : Int) = ((i - m : Nat) : Int) := by omega
      go_wp2_with fail
      refine (u2.out _ him hS1).mono ?_
      rintro e w1 ⟨rfl, hb1⟩
      go_wp2_with fail
      refine (i2.out _ him (keepS hS1 hb1)).mono ?_
      rintro e w2 ⟨⟨v, rfl, hO⟩, hb2⟩
      have hb12 := bnext hb1 hb2
      go_wp2_with fail
      refine (joined_new [Dg.sNode, last, Y1] _ _ 3 _ rfl (len3 _ _ _) hm.out J HJ.out w2 rfl _ rfl).mono ?_
      rintro e w4 ⟨rfl, hb4⟩
      have hb14 := bnext hb12 hb4
      have hO4 := (hO.below hb4).base hb1.size
      go_wp2_with (first | (at_builtin; refine step_s w4 rfl (.tmp 79) (.tmp 84) rfl J w.heap.size _ T2 rfl hO4 rfl (by omega) hb14.size ?_; intro v' w5 hO5 hb5) | fail)
      have hb15 := hb14.trans hb5
      refine (joined_new [Dg.sNode, last, Y2] _ _ 3 _ rfl (len3 _ _ _) hm2.out J2 HJ2.out w5 rfl _ rfl).mono ?_
      rintro e w6 ⟨rfl, hb6⟩
      have hb16 := bnext hb15 hb6
      have hO6 := hO5.below hb6
      go_wp2_with (at_builtin; refine step_s w6 rfl (.tmp 86) (.tmp 91) rfl J2 w.heap.size _ (T2 ++ [J]) rfl hO6 rfl (by rw [len_snoc]; omega) hb16.size ?_; intro v'' w7 hO7 hb7)
      go_ret
      rw [hr.out]
      exact ⟨⟨_, rfl, hO7⟩, hb16.trans hb7⟩
end Go.Proofs.YtmmpndijfbbnnaaDoor
