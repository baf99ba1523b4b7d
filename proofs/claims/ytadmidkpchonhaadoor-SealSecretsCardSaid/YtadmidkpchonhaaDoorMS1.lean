/- Walks and laws of this seat, several texts in one: SL3, SL4. No conditions but those that each theorem states. -/
import Derived.Test.YtadmidkpchonhaaDoorMA3
/- SealSecrets. -/
namespace Go.Proofs.YtadmidkpchonhaaDoor
open Go Go.RowKit Go.Sort
theorem chained_isB {S : ByteArray} (h : Dg.isB S = true) (n : Nat) : ∀ t ∈ Dg.chained S n, t.size ≤ 4194304 := fun t ht => by
  unfold Dg.chained at ht
  obtain ⟨j, _, rfl⟩ := List.mem_map.1 ht
  have := Dg.chainB_le S j
  have := Dg.isB_len h
  omega
theorem pairT_size (n : Nat) : ∀ (L : List ByteArray), L.length ≤ n → (∀ x ∈ L, x.size ≤ 1048576) → ∀ t ∈ Dg.pairT L, t.size ≤ 4194304 := by
  induction n using Nat.strongRecOn with
  | _ n ih =>
  intro L hL hz
  match L with
  | [] => intro t ht; cases ht
  | [a] => intro t ht; cases ht
  | a :: b :: r =>
    simp only [List.length_cons] at hL
    intro t ht
    rcases List.mem_cons.1 ht with rfl | ht
    · exact jB_size _ (by simp) (mem3 (by decide) (hz a (by simp)) (hz b (by simp)))
    · exact ih (n - 2) (by omega) r (by omega) (fun x hx => hz x (List.mem_cons_of_mem _ (List.mem_cons_of_mem _ hx))) t ht
theorem lvF_size (f : Nat) : ∀ (L : List ByteArray), (∀ x ∈ L, x.size = 16) → ∀ t ∈ Dg.lvF f L, t.size ≤ 4194304 := by
  induction f with
  | zero => intro L _ t ht; cases ht
  | succ f ih =>
    intro L hL t ht
    rw [Dg.lvF] at ht
    split at ht
    · cases ht
    · rcases List.mem_append.1 ht with ht | ht
      · exact pairT_size L.length L (Nat.le_refl _) (fun x hx => by rw [hL x hx]; decide) t ht
      · exact ih _ (pairD_16 L.length L (Nat.le_refl _)) t ht
theorem ends_jB_size (s : ByteArray) (i : Nat) : (Dg.jB (Dg.endsOf s i)).size ≤ 4611686018427387904 := by
  rw [Dg.jB, Dg.size_B]
  have := joined_16 (Dg.endsOf s i) (by rw [Dg.endsOf_len]; decide) (fun x hx => by rw [Dg.endsOf_size s i x hx]; decide)
  omega
theorem made_size (s : ByteArray) (hs : s.size ≤ 1048576) (h n : Nat) : ∀ t ∈ Dg.made s h n, t.size ≤ 4611686018427387904 := fun t ht => by
  unfold Dg.made at ht
  rcases List.mem_append.1 ht with ht | ht
  · obtain ⟨i, _, ht⟩ := List.mem_flatMap.1 ht
    unfold Dg.madeKey at ht
    rcases List.mem_append.1 ht with ht | ht
    · obtain ⟨k, _, ht⟩ := List.mem_flatMap.1 ht
      rcases List.mem_cons.1 ht with rfl | ht
      · have := jB_size [s, Dg.decS i, Dg.decS k] (by simp) (mem3 hs (by have := Dg.decS_size i; omega) (by have := Dg.decS_size k; omega))
        exact Nat.le_trans this (by decide)
      · exact Nat.le_trans (chained_isB (by rw [← Dg.ch_zero]; exact Dg.isB_ch _ _ _ _) n t ht) (by decide)
    · rcases List.mem_cons.1 ht with rfl | ht
      · exact ends_jB_size s i
      · rw [List.mem_singleton.1 ht]
        exact Nat.le_trans (jB_size [Dg.sLeaf, Dg.keyB s i] (by simp) (mem2 (by decide) (by rw [Dg.keyB_size]; decide))) (by decide)
  · exact Nat.le_trans (lvF_size _ _ (fun x hx => by
      unfold Dg.leaves at hx
      obtain ⟨y, _, rfl⟩ := List.mem_map.1 hx
      exact listB_size _) t ht) (by decide)
theorem made_len (s : ByteArray) (h n : Nat) (hh : h ≤ 2) (hn : n ≤ 30) : 1 ≤ (Dg.made s h n).length ∧ (Dg.made s h n).length ≤ 100000 := by
  have hp : 2 ^ h ≤ 4 := Nat.pow_le_pow_right (n := 2) (by omega) hh
  have hp1 := Nat.one_le_two_pow (n := h)
  rw [made_eq, List.length_append, madeTo_len]
  have key : ∀ f (L : List ByteArray), L.length ≤ 4 → (Dg.lvF f L).length ≤ 2 * f := by
    intro f
    induction f with
    | zero => intro L _; exact Nat.le_refl _
    | succ f ih =>
      intro L hL
      rw [Dg.lvF]
      split
      · simp
      · have h1 := pairs_len L.length L (Nat.le_refl _)
        have h2 := ih (Dg.pairD L) (by omega)
        rw [List.length_append]
        omega
  have h1 := key (2 ^ h) (lvTo s (2 ^ h)) (by rw [lvTo_len]; exact hp)
  generalize 2 ^ h = P at *
  have h2 : P * (18 * (n + 2) + 2) ≤ 4 * (18 * (30 + 2) + 2) := Nat.mul_le_mul hp (by omega)
  have h3 : 1 * (18 * (0 + 2) + 2) ≤ P * (18 * (n + 2) + 2) := Nat.mul_le_mul hp1 (by omega)
  omega
end Go.Proofs.YtadmidkpchonhaaDoor
/- SealSecrets. -/
namespace Go.Proofs.YtadmidkpchonhaaDoor
open Go Go.RowKit Go.Sort
theorem secrets_plain (s o m : ByteArray) (h i : Nat) (hh : h ≤ 2) (hi : i < 2 ^ h) (hs : s.size ≤ 300) (ho : o.size ≤ 300) (hne : s ≠ o) (hv : verifyB (Dg.publicB o h) m i (Dg.sigB s i m) (Dg.sealPath s h i) = true) : Dg.Shown (Dg.made s h 15 ++ Dg.made o h 15) := by
  obtain ⟨_, _, _, _, _, _, h7⟩ := (verifyB_iff _ _ _ _ _).1 hv
  obtain ⟨_, _, _, _, _, _, h8⟩ := (verifyB_iff _ _ _ _ _).1 (verifyB_self s m h i (by omega) hi)
  exact Dg.seal_secrets s o h hh (Dg.leZ (by omega)) (Dg.leZ (by omega)) hne (h8.symm.trans h7)
set_option maxRecDepth 100000 in
set_option maxHeartbeats 4000000 in
theorem law_secrets (s o m : ByteArray) (r1 r2 : Nat) (w : World) (he : Env w) (hr1 : r1 ≤ 255) (hr2 : r2 ≤ 255) (hs : s.size ≤ 9223372036854775807) (ho : o.size ≤ 9223372036854775807) (hm : m.size ≤ 9223372036854775807) :
    Calls Tryd.prog 7 #[.string s, .string o, .int .u8 r1, .int .u8 r2, .string m] w fun e w' => e = .returned (.bool true) ∧ Below w.heap.size w w' := by
  have hm2 := hide (mem3 (a := s) (b := o) (c := m) (n := 9223372036854775807) hs ho hm)
  obtain ⟨h, hh⟩ : ∃ h : Nat, r1 % 3 = h := ⟨_, rfl⟩
  have h3 : h ≤ 2 := by omega
  have e1 : (r1 : Int) % 3 = (h : Int) := by omega
  have hp := Nat.pow_le_pow_right (n := 2) (by omega) h3
  have hp1 := Nat.one_le_two_pow (n := h)
  obtain ⟨n, hn⟩ : ∃ n : Nat, 2 ^ h = n := ⟨_, rfl⟩
  have hw := pow_wrap h n hn (by omega)
  have hw2 := pow_wrapK h n hn (by omega)
  rw [hn] at hp hp1
  have hp : n ≤ 4 := hp
  obtain ⟨i, hi⟩ : ∃ i : Nat, r2 % n = i := ⟨_, rfl⟩
  have hin : i < n := by rw [← hi]; exact Nat.mod_lt _ (by omega)
  have e2 : (r2 : Int) % (n : Int) = (i : Int) := by rw [← hi]; push_cast; rfl
  have HN := hide hn; clear hn hh hi
  have hn0 : (0 : Int) < (n : Int) := by omega
  go_enter Tryd.func7, Tryd.ntmps7
  have hb := Below.refl w.heap.size w
  go_wp2_with fail
  refine (head3_of w he).mono ?_
  rintro e w1 ⟨rfl, hb1⟩
  replace he := he.next hb1
  replace hb := bnext hb hb1; clear hb1
  go_wp2_with fail
  cases hsh : shortB [s, o, m] with
  | false =>
    refine (short3_new [s, o, m] _ _ 3 _ rfl (by decide) hm2.out false hsh _ rfl _ rfl).mono ?_
    rintro e w2 ⟨rfl, rfl⟩
    go_wp2
    go_ret
    exact ⟨rfl, hb.alloc hb.size _⟩
  | true =>
    obtain ⟨zs, zo, zm⟩ := short3 hsh
    have hsh' := hide hsh; clear hsh
    refine (short3_new [s, o, m] _ _ 3 _ rfl (by decide) hm2.out true hsh'.out _ rfl _ rfl).mono ?_
    rintro e w2 ⟨rfl, rfl⟩
    replace he := he.alloc (.cells #[.string s, .string o, .string m] 9)
    replace hb := hb.alloc hb.size (.cells #[.string s, .string o, .string m] 9)
    by_cases hso : s = o
    · have t1 := tl_true hso
      clear hso
      go_wp2
      go_ret
      exact ⟨rfl, hb⟩
    · have t1 := tl_false hso
      have HSO := hide hso; clear hso
      have hpl := hide (fun hv => secrets_plain s o m h i h3 (by rw [HN.out]; exact hin) zs zo HSO.out hv)
      have hSz := hide (sigB_sz s i m)
      have hTz := hide (sealPath_sz s h i)
      have hSl := hide (Dg.sigB_len s i m)
      have hTl := hide (Dg.sealPath_len s h i (by rw [HN.out]; exact hin))
      generalize hP : Dg.publicB o h = P at *
      generalize hSG : Dg.sigB s i m = SG at *
      generalize hPT : Dg.sealPath s h i = PT at *
      generalize hM1 : Dg.made s h 15 = M1 at *
      generalize hM2 : Dg.made o h 15 = M2 at *
      have HP := hide hP; have HSG := hide hSG; have HPT := hide hPT; have HM1 := hide hM1; have HM2 := hide hM2
      clear hP hSG hPT hM1 hM2
      go_wp2_with fail
      refine (public_any o h (by omega) (by omega) P HP.out _ he).mono ?_
      rintro e w3 ⟨rfl, hb3⟩
      replace he := he.next hb3
      replace hb := bnext hb hb3; clear hb3
      go_wp2_with fail
      refine (sign_of s m _ _ h i rfl rfl (by omega) (by omega) (by omega) (by rw [HN.out]; exact hin) SG PT HSG.out HPT.out _ he).mono ?_
      rintro e w4 ⟨A, c, A', c', rfl, hc, hc', hS, hS', hb4⟩
      replace he := he.next hb4
      replace hb := bnext hb hb4; clear hb4
      go_wp2_with fail
      have hS4 := keepS hS (Below.news (Below.refl _ _) (.cells #[.int .i64 i, .slice A 18 c, .slice A' h c'] 29))
      have hS4' := keepS hS' (Below.news (Below.refl _ _) (.cells #[.int .i64 i, .slice A 18 c, .slice A' h c'] 29))
      cases hv : verifyB P m i SG PT with
      | false =>
        refine (verify_of P m i A A' 18 h c c' SG PT _ (he.alloc _) (by omega) hSl.out hSz.out hS4 hTl.out hTz.out hS4' hc false hv).mono ?_
        rintro e w5 ⟨rfl, hb5⟩
        go_wp2
        go_ret
        exact ⟨rfl, bnextA hb hb5⟩
      | true =>
        have hshown := hide (hpl.out hv)
        have HV := hide hv; clear hv
        refine (verify_of P m i A A' 18 h c c' SG PT _ (he.alloc _) (by omega) hSl.out hSz.out hS4 hTl.out hTz.out hS4' hc true HV.out).mono ?_
        rintro e w5 ⟨rfl, hb5⟩
        replace hb := bnextA hb hb5
        have hw5 := hb.size
        clear hb5 hS4 hS4' hS hS'
        have l1 := made_len s h 15 h3 (by decide)
        have l2 := made_len o h 15 h3 (by decide)
        have z1 := hide (made_size s (by omega) h 15)
        have z2 := hide (made_size o (by omega) h 15)
        rw [HM1.out] at l1 z1
        rw [HM2.out] at l2 z2
        have mz := hide (mem_app z1.out z2.out)
        go_wp2_with fail
        have k1 := made_any s h 15 (by omega) (by omega) (by decide) (by decide) w5
        rw [HM1.out] at k1
        refine k1.mono ?_
        rintro e w6 ⟨⟨v1, rfl, hO1⟩, hb6⟩
        replace hb := bnext hb hb6
        obtain ⟨g1, c1, rfl, hg1, hg1'⟩ := hO1.full (by omega)
        clear k1
        go_wp2_with fail
        have k2 := made_any o h 15 (by omega) (by omega) (by decide) (by decide) w6
        rw [HM2.out] at k2
        refine k2.mono ?_
        rintro e w7 ⟨⟨v2, rfl, hO2⟩, hb7⟩
        have hO1' := hO1.below hb7
        have hs7 := hb7.size
        have hs6 := hb6.size
        obtain ⟨A2, c2, rfl, hc2, hS2⟩ := hO2.strs
        clear k2
        have hL : OwnL w7 w5.heap.size [sR (.slice (some ⟨g1, 0, none⟩) M1.length c1) M1] := ⟨fun r hr => by rw [List.mem_singleton.1 hr]; exact hO1', List.pairwise_singleton _ _⟩
        go_wp2_with (at_builtin; refine step_la rfl (.tmp 69) (.tmp 72) rfl w5.heap.size _ _ M1 M2 _ rfl hL A2 M2.length c2 rfl rfl hS2 (by omega) (by omega) ?_; intro v8 w8 hL8 hb8; obtain ⟨A8, c8, hv8, hc8, hS8⟩ := hL8.strs1; rw [List.length_append] at hv8; subst hv8)
        refine (shown_any A8 c8 (M1.length + M2.length) (M1 ++ M2) w8 List.length_append (by omega) mz.out hS8 hshown.out).mono ?_
        rintro e w9 ⟨rfl, hb9⟩
        go_wp2
        go_ret
        exact ⟨rfl, bnext ((bnext hb hb7).trans (hb8.mono hw5)) hb9⟩
end Go.Proofs.YtadmidkpchonhaaDoor

