/- Walks and laws of this seat, several texts in one: VS. No conditions but those that each theorem states. -/
import Derived.Test.YtgncahnkkpjdpaaDoorNA5
/- VoteSigned. No conditions but those that each theorem states. -/
namespace Go.Proofs.YtgncahnkkpjdpaaDoor
open Go Go.RowKit Go.Sort Go.Maps
/-- Rows of two bases, joined. -/
theorem OwnL.join {W : World} {B B' : Nat} {r1 r2 : List (Value × TypeId × List Value)} (h1 : OwnL W B' r1) (h2 : OwnL W B r2) (hB : B ≤ B') (hlt : ∀ r ∈ r2, ∀ g, r.1.ownBlock = some g → g < B') : OwnL W B (r1 ++ r2) := by
  refine ⟨fun r hr => ?_, List.pairwise_append.2 ⟨h1.apart, h2.apart, fun a ha b hb g hg he => ?_⟩⟩
  · rcases List.mem_append.1 hr with h | h
    · exact (h1.own r h).base hB
    · exact h2.own r h
  · have := ((h1.own a ha).lt hg).1
    have := hlt b hb g he
    omega
/-- Rows of its own. -/
structure QS (B : Nat) (rows : List (Value × TypeId × List Value)) (W : World) : Prop where
  own : OwnL W B rows
  env : Env W
theorem QS.below {B : Nat} {rows : List (Value × TypeId × List Value)} {W W' : World} (h : QS B rows W) (hb : Below W.heap.size W W') : QS B rows W' := ⟨h.own.below hb, h.env.next hb⟩
theorem QS.lit {B : Nat} {rows : List (Value × TypeId × List Value)} {W : World} (h : QS B rows W) (hB : B ≤ W.heap.size) (cs : Array Value) (T : TypeId) (n : Nat) (hn : cs.size = n) (hm : n ≤ maxLen) : QS B ((.slice (some ⟨W.heap.size, 0, none⟩) n n, T, cs.toList) :: rows) (W.alloc (.cells cs T)) :=
  ⟨h.own.lit hB cs T n hn hm, h.env.alloc _⟩
theorem QS.row {B g n : Nat} {T : TypeId} {xs : List Value} {rows : List (Value × TypeId × List Value)} {W : World} (h : QS B rows W) (hm : ((Value.slice (some ⟨g, 0, none⟩) n n, T, xs) : Value × TypeId × List Value) ∈ rows) : W.heap[g]? = some (.cells xs.toArray T (0, 0)) := OwnV.row (h.own.own _ hm)
theorem msgL_joined2 (m : Int) (b : ByteArray) (c : Int) (y : Bool) (hb : b.size ≤ 100) (m0 : -9223372036854775808 ≤ m) (m1 : m ≤ 9223372036854775807) (c0 : -9223372036854775808 ≤ c) (c1 : c ≤ 9223372036854775807) : (Dg.joinedL (Dg.msgL m b c y)).length ≤ 605 :=
  Nat.le_trans (Dg.joinedL_len_le (Dg.msgL m b c y) 100 (Dg.msgL_sizes m b c y hb m0 m1 c0 c1)) (by show 5 * (100 + 21) ≤ 605; decide)
theorem ngt_t {a b : Nat} (h : ¬ a ≤ b) : decide ((b : Int) < (a : Int)) = true ∧ decide (b < a) = true := ⟨dec_t (by omega), dec_t (by omega)⟩
theorem ngt_f {a b : Nat} (h : a ≤ b) : decide ((b : Int) < (a : Int)) = false ∧ decide (b < a) = false := ⟨dec_f (by omega), dec_f (by omega)⟩
theorem ilt_t {a b : Int} (h : ¬ a ≤ b) : decide (b < a) = true := dec_t (by omega)
theorem ilt_f {a b : Int} (h : a ≤ b) : decide (b < a) = false := dec_f (by omega)
set_option maxRecDepth 100000 in
set_option maxHeartbeats 16000000 in
theorem law_signed (secret : ByteArray) (raw : Nat) (am : Int) (ab : ByteArray) (ac : Int) (ay : Bool) (ai : Int) (aP aQ : Option Addr) (aPn aPc aQn aQc : Nat) (bm : Int) (bb : ByteArray) (bc : Int) (by_ : Bool) (bi : Int) (bP bQ : Option Addr) (bPn bPc bQn bQc : Nat) (w : World) (he : Env w)
    (hraw : raw ≤ 255) (hsec : secret.size ≤ 9223372036854775807) (am0 : -9223372036854775808 ≤ am) (am1 : am ≤ 9223372036854775807) (ac0 : -9223372036854775808 ≤ ac) (ac1 : ac ≤ 9223372036854775807) (hab : ab.size ≤ 9223372036854775807)
    (bm0 : -9223372036854775808 ≤ bm) (bm1 : bm ≤ 9223372036854775807) (bc0 : -9223372036854775808 ≤ bc) (bc1 : bc ≤ 9223372036854775807) (hbb : bb.size ≤ 9223372036854775807) :
    Calls Tryd.prog 7 #[.string secret, .int .u8 raw, .agg #[.int .i64 am, .string ab, .int .i64 ac, .bool ay, .int .i64 ai, .slice aP aPn aPc, .slice aQ aQn aQc], .agg #[.int .i64 bm, .string bb, .int .i64 bc, .bool by_, .int .i64 bi, .slice bP bPn bPc, .slice bQ bQn bQc]] w fun r w' => r = .returned (.bool true) ∧ Below w.heap.size w w' := by
  have HB := hide (And.intro am0 (And.intro am1 (And.intro ac0 (And.intro ac1 (And.intro bm0 (And.intro bm1 (And.intro bc0 bc1)))))))
  have HZ2 := hide (And.intro hsec (And.intro hab hbb))
  clear am0 am1 ac0 ac1 bm0 bm1 bc0 bc1 hsec hab hbb
  have hH : QS w.heap.size [] w := ⟨OwnL.nil _ _, he⟩
  have hb := Below.refl w.heap.size w
  replace hH := hH.lit hb.size #[.int .i64 am, .string ab, .int .i64 ac, .bool ay, .int .i64 ai, .slice aP aPn aPc, .slice aQ aQn aQc] 33 7 rfl (by unfold maxLen; omega)
  replace hb := bnext hb (Below.news (Below.refl w.heap.size w) (.cells #[.int .i64 am, .string ab, .int .i64 ac, .bool ay, .int .i64 ai, .slice aP aPn aPc, .slice aQ aQn aQc] 33))
  replace hH := hH.lit hb.size #[.int .i64 bm, .string bb, .int .i64 bc, .bool by_, .int .i64 bi, .slice bP bPn bPc, .slice bQ bQn bQc] 33 7 rfl (by unfold maxLen; omega)
  replace hb := bnext hb (Below.news (Below.refl (w.alloc (.cells #[.int .i64 am, .string ab, .int .i64 ac, .bool ay, .int .i64 ai, .slice aP aPn aPc, .slice aQ aQn aQc] 33)).heap.size (w.alloc (.cells #[.int .i64 am, .string ab, .int .i64 ac, .bool ay, .int .i64 ai, .slice aP aPn aPc, .slice aQ aQn aQc] 33))) (.cells #[.int .i64 bm, .string bb, .int .i64 bc, .bool by_, .int .i64 bi, .slice bP bPn bPc, .slice bQ bQn bQc] 33))
  have hz1 : (w.alloc (.cells #[.int .i64 am, .string ab, .int .i64 ac, .bool ay, .int .i64 ai, .slice aP aPn aPc, .slice aQ aQn aQc] 33)).heap.size = w.heap.size + 1 := by simp
  rw [hz1] at hH
  clear hz1
  obtain ⟨h, hh⟩ : ∃ h : Nat, raw % 3 = h := ⟨_, rfl⟩
  have h3 : h ≤ 2 := by omega
  have e1 : (raw : Int) % 3 = (h : Int) := by omega
  have hp := Nat.pow_le_pow_right (n := 2) (by omega) h3
  have hp1 := Nat.one_le_two_pow (n := h)
  obtain ⟨n, hn⟩ : ∃ n : Nat, 2 ^ h = n := ⟨_, rfl⟩
  have hw := pow_wrap h n hn (by omega)
  have hw2 := pow_wrapK h n hn (by omega)
  rw [hn] at hp hp1
  have hp : n ≤ 4 := hp
  obtain ⟨i, hi⟩ : ∃ i : Nat, raw / 3 % n = i := ⟨_, rfl⟩
  have hin : i < n := by rw [← hi]; exact Nat.mod_lt _ (Nat.lt_of_lt_of_le Nat.zero_lt_one hp1)
  have e2 : (raw : Int) / 3 % (n : Int) = (i : Int) := by rw [← hi]; push_cast; rfl
  have HN := hide hn; have hiK := hi; clear hn hh hi
  have hn0 : (0 : Int) < (n : Int) := by omega
  have hnz : ¬ n = 0 := by omega
  have hnzI : ¬ (n : Int) = 0 := by omega
  obtain ⟨q3, hq3⟩ : ∃ q : Nat, raw / 3 = q := ⟨_, rfl⟩
  have hr0 : IntKind.i64.wrap (raw : Int) = (raw : Int) := IntWalk.i64_in _ (by omega)
  have hr1 : (raw : Int).tdiv 3 = (q3 : Int) := by rw [← hq3, Int.tdiv_eq_ediv_of_nonneg (by omega)]; omega
  have hr2 : IntKind.i64.wrap (q3 : Int) = (q3 : Int) := IntWalk.i64_in _ (by omega)
  have hr3 : (q3 : Int).tmod (n : Int) = (i : Int) := by rw [← hiK, ← hq3, Int.tmod_eq_emod_of_nonneg (by omega)]; push_cast; rfl
  clear hq3 hiK
  go_enter Tryd.func7, Tryd.ntmps7
  go_wp2_with fail
  generalize ((w.alloc (.cells #[.int .i64 am, .string ab, .int .i64 ac, .bool ay, .int .i64 ai, .slice aP aPn aPc, .slice aQ aQn aQc] 33)).alloc (.cells #[.int .i64 bm, .string bb, .int .i64 bc, .bool by_, .int .i64 bi, .slice bP bPn bPc, .slice bQ bQn bQc] 33)) = W0 at *
  generalize w.heap.size + 1 = g1 at *
  refine (head39_any _ hH.env).mono ?_
  rintro r w1 ⟨rfl, hb1⟩
  replace hH := hH.below hb1
  replace hb := bnext hb hb1
  clear hb1
  obtain ⟨a0, a1, a2, a3, a4, a5, a6⟩ := cells7 (hH.row (List.mem_cons_of_mem _ (List.mem_cons_self ..)))
  obtain ⟨b0, b1, b2, b3, b4, b5, b6⟩ := cells7 (hH.row (List.mem_cons_self ..))
  by_cases hc : secret.size ≤ 100
  rotate_left
  · skip
    obtain ⟨dd0, dd1⟩ := ngt_t hc
    replace dd0 : decide ((100 : Int) < (secret.size : Int)) = true := dd0
    clear hc
    go_wp2
    go_ret
    exact ⟨rfl, hb⟩
  have c1 : secret.size ≤ 100 := hc
  clear hc
  obtain ⟨f1, f2⟩ := ngt_f c1
  replace f1 : decide ((100 : Int) < (secret.size : Int)) = false := f1
  by_cases hc : 0 ≤ am
  rotate_left
  · skip
    have dd0 : decide (am < 0) = true := ilt_t hc
    clear hc
    go_wp2
    go_ret
    exact ⟨rfl, hb⟩
  have c2 : 0 ≤ am := hc
  clear hc
  have f3 : decide (am < 0) = false := ilt_f c2
  by_cases hc : am ≤ 9
  rotate_left
  · skip
    have dd0 : decide ((9 : Int) < am) = true := ilt_t hc
    clear hc
    go_wp2
    go_ret
    exact ⟨rfl, hb⟩
  have c3 : am ≤ 9 := hc
  clear hc
  have f4 : decide ((9 : Int) < am) = false := ilt_f c3
  by_cases hc : ab.size ≤ 100
  rotate_left
  · skip
    obtain ⟨dd0, dd1⟩ := ngt_t hc
    replace dd0 : decide ((100 : Int) < (ab.size : Int)) = true := dd0
    clear hc
    go_wp2
    go_ret
    exact ⟨rfl, hb⟩
  have c4 : ab.size ≤ 100 := hc
  clear hc
  obtain ⟨f5, f6⟩ := ngt_f c4
  replace f5 : decide ((100 : Int) < (ab.size : Int)) = false := f5
  by_cases hc : bb.size ≤ 100
  rotate_left
  · skip
    obtain ⟨dd0, dd1⟩ := ngt_t hc
    replace dd0 : decide ((100 : Int) < (bb.size : Int)) = true := dd0
    clear hc
    go_wp2
    go_ret
    exact ⟨rfl, hb⟩
  have c5 : bb.size ≤ 100 := hc
  clear hc
  obtain ⟨f7, f8⟩ := ngt_f c5
  replace f7 : decide ((100 : Int) < (bb.size : Int)) = false := f7
  have hch : ((ac != 1) = false ∧ (ac = 1 ∨ ac = 2)) ∨ ((ac != 1) = true ∧ (ac != 2) = false ∧ (ac = 1 ∨ ac = 2)) ∨ ((ac != 1) = true ∧ (ac != 2) = true) := by
    by_cases q1 : ac = 1
    · subst q1; exact Or.inl ⟨rfl, Or.inl rfl⟩
    · by_cases q2 : ac = 2
      · subst q2; exact Or.inr (Or.inl ⟨rfl, rfl, Or.inr rfl⟩)
      · exact Or.inr (Or.inr ⟨bne_iff_ne.2 q1, bne_iff_ne.2 q2⟩)
  obtain ⟨amN, rfl⟩ := Int.eq_ofNat_of_zero_le c2
  obtain ⟨M, hM⟩ : ∃ M, Dg.msgB (amN : Int) ab ac ay = M := ⟨_, rfl⟩
  have hMz : M.size = 16 := by rw [← hM]; exact Dg.listB_size _
  go_upto_region 3 with (fail)
  go_cut [64] from 30 to 64 (fun v wx => ∃ rb : Bool, v = .bool rb ∧ (rb = false → ac = 1 ∨ ac = 2) ∧ wx = w1)
  case first =>
    rcases hch with ⟨k1, kc⟩ | ⟨k1, k2, kc⟩ | ⟨k1, k2⟩
    · go_wp2_with fail
      go_meet
      exact ⟨false, rfl, fun _ => kc, rfl⟩
    · go_wp2_with fail
      go_meet
      exact ⟨false, rfl, fun _ => kc, rfl⟩
    · go_wp2_with fail
      go_meet
      exact ⟨true, rfl, (fun h => (by cases h)), rfl⟩
  case rest =>
    obtain ⟨rb, rfl, hkc, hwc⟩ := hcut
    subst hwc
    clear hch f1 f2 f3 f4 f5 f6 f7 f8
    cases rb with
    | true =>
      go_wp2
      go_ret
      exact ⟨rfl, hb⟩
    | false =>
    have kc := hkc rfl
    clear hkc
    go_wp2_with fail
    obtain ⟨Q, hQ⟩ : ∃ Q, Dg.publicB secret h = Q := ⟨_, rfl⟩
    have HQ := hide hQ; clear hQ
    refine (public_of secret h h rfl (by omega) (by omega) Q HQ.out _ hH.env).mono ?_
    rintro r w2 ⟨rfl, hb2⟩
    replace hH := hH.below hb2
    replace hb := bnext hb hb2
    clear hb2
    clear a0 a1 a2 a3 a4 a5 a6 b0 b1 b2 b3 b4 b5 b6
    go_upto_region 6 with (fail)
    obtain ⟨SG, hSG⟩ : ∃ S, Dg.sigB secret i M = S := ⟨_, rfl⟩
    obtain ⟨PT, hPT⟩ : ∃ S, Dg.sealPath secret h i = S := ⟨_, rfl⟩
    have hSl := hide (show SG.length = 18 by rw [← hSG]; exact Dg.sigB_len secret i M)
    have hTl := hide (show PT.length = h by rw [← hPT]; exact Dg.sealPath_len secret h i (by rw [HN.out]; exact hin))
    have HSG := hide hSG; have HPT := hide hPT; have HMM := hide hM; clear hSG hPT hM
    go_cut [13, 14] from 72 to 85 (fun v1 v2 wx => ∃ (gs : Nat) (sA : Option Addr) (sc : Nat) (sB : Option Addr) (sd : Nat), v1 = .pointer (some ⟨gs, 0, none⟩) ∧ v2 = .int .i64 0 ∧ QS w.heap.size [(.slice (some ⟨gs, 0, none⟩) 3 3, 31, [.int .i64 (i : Int), .slice sA 18 sc, .slice sB h sd]), (.slice (some ⟨g1, 0, none⟩) 7 7, 33, [.int .i64 bm, .string bb, .int .i64 bc, .bool by_, .int .i64 bi, .slice bP bPn bPc, .slice bQ bQn bQc]), (.slice (some ⟨w.heap.size, 0, none⟩) 7 7, 33, [.int .i64 (amN : Int), .string ab, .int .i64 ac, .bool ay, .int .i64 ai, .slice aP aPn aPc, .slice aQ aQn aQc])] wx ∧ Strs wx wx.heap.size sA SG ∧ Strs wx wx.heap.size sB PT ∧ 18 ≤ sc ∧ h ≤ sd ∧ Below w2.heap.size w2 wx)
    case first =>
      have hmx : Tryd.prog.follows .mixedOrders = true := by kernel_rfl
      have hHeld : (QS w.heap.size [(.slice (some ⟨g1, 0, none⟩) 7 7, 33, [.int .i64 bm, .string bb, .int .i64 bc, .bool by_, .int .i64 bi, .slice bP bPn bPc, .slice bQ bQn bQc]), (.slice (some ⟨w.heap.size, 0, none⟩) 7 7, 33, [.int .i64 (amN : Int), .string ab, .int .i64 ac, .bool ay, .int .i64 ai, .slice aP aPn aPc, .slice aQ aQn aQc])]) w2.drew := hH.below (Below.refl _ _).drew
      have hbz0 : Below w2.heap.size w2 w2.drew := (Below.refl _ _).drew
      refine wp_region_noPanic ?_
      refine wp_region_L (QS w.heap.size [(.slice (some ⟨g1, 0, none⟩) 7 7, 33, [.int .i64 bm, .string bb, .int .i64 bc, .bool by_, .int .i64 bi, .slice bP bPn bPc, .slice bQ bQn bQc]), (.slice (some ⟨w.heap.size, 0, none⟩) 7 7, 33, [.int .i64 (amN : Int), .string ab, .int .i64 ac, .bool ay, .int .i64 ai, .slice aP aPn aPc, .slice aQ aQn aQc])]) 15 hmx ?_
      generalize w2.drew = u0 at *
      refine wpAnyL_take (i := 0) (f0 := 20) (v := ?_) rfl (by decide +kernel) (by decide +kernel) (by decide +kernel) (by decide +kernel) (by decide +kernel) (fun _ _ _ h => h) (Or.inl ⟨by rfl, ?_⟩) hHeld ?_
      rotate_left
      · intro wS hS; go_simp; (try with_reducible rfl)
      simp only [Act.put, List.getElem_toArray, List.getElem_cons_zero, List.setIfInBounds_toArray, List.set_cons_succ, List.set_cons_zero]
      refine wpAnyL_take (i := 1) (f0 := 20) (v := ?_) rfl (by decide +kernel) (by decide +kernel) (by decide +kernel) (by decide +kernel) (by decide +kernel) (fun _ _ _ h => h) (Or.inl ⟨by rfl, ?_⟩) hHeld ?_
      rotate_left
      · intro wS hS; go_simp; (try with_reducible rfl)
      simp only [Act.put, List.getElem_toArray, List.getElem_cons_succ, List.getElem_cons_zero, List.setIfInBounds_toArray, List.set_cons_succ, List.set_cons_zero]
      refine wpAnyL_take (i := 2) (f0 := 20) (v := ?_) rfl (by decide +kernel) (by decide +kernel) (by decide +kernel) (by decide +kernel) (by decide +kernel) (fun _ _ _ h => h) (Or.inl ⟨by rfl, ?_⟩) hHeld ?_
      rotate_left
      · intro wS hS; go_simp; (try with_reducible rfl)
      simp only [Act.put, List.getElem_toArray, List.getElem_cons_succ, List.getElem_cons_zero, List.setIfInBounds_toArray, List.set_cons_succ, List.set_cons_zero]
      refine wpAnyL_take (i := 3) (f0 := 20) (v := ?_) rfl (by decide +kernel) (by decide +kernel) (by decide +kernel) (by decide +kernel) (by decide +kernel) (fun _ _ _ h => h) (Or.inl ⟨by rfl, ?_⟩) hHeld ?_
      rotate_left
      · intro wS hS; go_simp; (try with_reducible rfl)
      simp only [Act.put, List.getElem_toArray, List.getElem_cons_succ, List.getElem_cons_zero, List.setIfInBounds_toArray, List.set_cons_succ, List.set_cons_zero]
      refine wpAnyL_take (i := 4) (f0 := 20) (v := ?_) rfl (by decide +kernel) (by decide +kernel) (by decide +kernel) (by decide +kernel) (by decide +kernel) (fun _ _ _ h => h) (Or.inl ⟨by rfl, ?_⟩) hHeld ?_
      rotate_left
      · intro wS hS; go_simp; (try with_reducible rfl)
      simp only [Act.put, List.getElem_toArray, List.getElem_cons_succ, List.getElem_cons_zero, List.setIfInBounds_toArray, List.set_cons_succ, List.set_cons_zero]
      refine wpAnyL_take (i := 5) (f0 := 20) (v := ?_) rfl (by decide +kernel) (by decide +kernel) (by decide +kernel) (by decide +kernel) (by decide +kernel) (fun _ _ _ h => h) (Or.inl ⟨by rfl, ?_⟩) hHeld ?_
      rotate_left
      · intro wS hS; go_simp; (try with_reducible rfl)
      simp only [Act.put, List.getElem_toArray, List.getElem_cons_succ, List.getElem_cons_zero, List.setIfInBounds_toArray, List.set_cons_succ, List.set_cons_zero]
      refine wpAnyL_take (i := 6) (f0 := 20) (v := ?_) rfl (by decide +kernel) (by decide +kernel) (by decide +kernel) (by decide +kernel) (by decide +kernel) (fun _ _ _ h => h) (Or.inl ⟨by rfl, ?_⟩) hHeld ?_
      rotate_left
      · intro wS hS; go_simp; (try with_reducible rfl)
      simp only [Act.put, List.getElem_toArray, List.getElem_cons_succ, List.getElem_cons_zero, List.setIfInBounds_toArray, List.set_cons_succ, List.set_cons_zero]
      refine wpAnyL_take (i := 7) (f0 := 20) (v := ?_) rfl (by decide +kernel) (by decide +kernel) (by decide +kernel) (by decide +kernel) (by decide +kernel) (fun _ _ _ h => h) (Or.inl ⟨by rfl, ?_⟩) hHeld ?_
      rotate_left
      · intro wS hS; go_simp; (try with_reducible rfl)
      simp only [Act.put, List.getElem_toArray, List.getElem_cons_succ, List.getElem_cons_zero, List.setIfInBounds_toArray, List.set_cons_succ, List.set_cons_zero]
      refine wpAnyL_take (i := 8) (f0 := 20) (v := ?_) rfl (by decide +kernel) (by decide +kernel) (by decide +kernel) (by decide +kernel) (by decide +kernel) (fun _ _ _ h => h) (Or.inl ⟨by rfl, ?_⟩) hHeld ?_
      rotate_left
      · intro wS hS; obtain ⟨p0, p1, p2, p3, p4, p5, p6⟩ := cells7 (hS.row (List.mem_cons_of_mem _ (List.mem_cons_self ..))); go_simp; (try with_reducible rfl)
      simp only [Act.put, List.getElem_toArray, List.getElem_cons_succ, List.getElem_cons_zero, List.setIfInBounds_toArray, List.set_cons_succ, List.set_cons_zero]
      refine wpAnyL_two (i := 9) (j := 14) (by decide +kernel) (by rfl) (by rfl) (fun K hK => ?_) (fun K hK => ?_)
      · rw [if_pos (by rfl)]
        go_simp
        refine (vmsg_any (amN : Int) ab ac ay _ _ _ HB.out.1 HB.out.2.1 HB.out.2.2.1 HB.out.2.2.2.1 (by omega) M HMM.out _ hHeld.env).mono ?_
        rintro r u_1 ⟨rfl, hx_1⟩
        have hbz_1 := bnext hbz0 hx_1
        have hH_1 := hHeld.below hx_1
        refine hK.out _ _ (Or.inr hH_1) ?_
        clear hK K
        try simp only [Act.put, List.getElem_toArray, List.getElem_cons_succ, List.getElem_cons_zero, List.setIfInBounds_toArray, List.set_cons_succ, List.set_cons_zero]
        refine wpAnyL_two (i := 10) (j := 14) (by decide +kernel) (by rfl) (by rfl) (fun K hK => ?_) (fun K hK => ?_)
        · rw [if_pos (by rfl)]
          go_simp
          refine (sign_of secret M h i h i rfl rfl (by omega) (by omega) (by omega) (by rw [HN.out]; exact hin) SG PT HSG.out HPT.out _ hH_1.env).mono ?_
          rintro r u_2 ⟨sA, sc, sB, sd, rfl, hsc, hsd, hS0_2, hT0_2, hx_2⟩
          have hbz_2 := bnext hbz_1 hx_2
          have hH_2 := hH_1.below hx_2
          refine hK.out _ _ (Or.inr hH_2) ?_
          clear hK K
          try simp only [Act.put, List.getElem_toArray, List.getElem_cons_succ, List.getElem_cons_zero, List.setIfInBounds_toArray, List.set_cons_succ, List.set_cons_zero]
          refine wpAnyL_take (i := 11) (f0 := 20) (v := ?_) rfl (by decide +kernel) (by decide +kernel) (by decide +kernel) (by decide +kernel) (by decide +kernel) (fun _ _ _ h => h) (Or.inl ⟨by rfl, ?_⟩) hH_2 ?_
          rotate_left
          · intro wS hS; go_simp; (try with_reducible rfl)
          simp only [Act.put, List.getElem_toArray, List.getElem_cons_succ, List.getElem_cons_zero, List.setIfInBounds_toArray, List.set_cons_succ, List.set_cons_zero]
          refine wpAnyL_take (i := 12) (f0 := 20) (v := ?_) rfl (by decide +kernel) (by decide +kernel) (by decide +kernel) (by decide +kernel) (by decide +kernel) (fun _ _ _ h => h) (Or.inl ⟨by rfl, ?_⟩) hH_2 ?_
          rotate_left
          · intro wS hS; go_simp; (try with_reducible rfl)
          simp only [Act.put, List.getElem_toArray, List.getElem_cons_succ, List.getElem_cons_zero, List.setIfInBounds_toArray, List.set_cons_succ, List.set_cons_zero]
          refine wpAnyL_take0 (i := 13) (v := ?_) rfl (by decide +kernel) (by decide +kernel) (by decide +kernel) (by decide) (fun _ _ _ h => h) (Or.inl ⟨by rfl, ?_⟩) (Or.inr hH_2) ?_
          rotate_left
          · intro wS _; go_simp; (try with_reducible rfl)
          simp only [Act.put, List.getElem_toArray, List.getElem_cons_succ, List.getElem_cons_zero, List.setIfInBounds_toArray, List.set_cons_succ, List.set_cons_zero]
          refine wpAnyL_one (i := 14) (by decide +kernel) (by rfl) (fun K hK => ?_)
          rw [if_pos (by rfl)]
          go_simp
          have hx_3 := Below.news (Below.refl u_2.heap.size u_2) (.cells #[.int .i64 0, .slice none 0 0, .slice none 0 0] 31)
          have hbz_3 := bnext hbz_2 hx_3
          have hH_3 := hH_2.below hx_3
          have hS_3 := keepS hS0_2 hx_3
          have hT_3 := keepS hT0_2 hx_3
          have hsl_3 := hH_2.lit (Nat.le_trans hb.size hbz_2.size) #[.int .i64 0, .slice none 0 0, .slice none 0 0] 31 3 rfl (by unfold maxLen; omega)
          refine hK.out _ _ (Or.inr hH_3) ?_
          clear hK K
          try simp only [Act.put, List.getElem_toArray, List.getElem_cons_succ, List.getElem_cons_zero, List.setIfInBounds_toArray, List.set_cons_succ, List.set_cons_zero]
          generalize u_2.alloc (.cells #[.int .i64 0, .slice none 0 0, .slice none 0 0] 31) = u_3 at *
          have hgsw : w2.heap.size ≤ u_2.heap.size := (by first | exact hbz_2.size)
          generalize hgs : u_2.heap.size = gs at *
          refine wpAnyL_one (i := 15) (by decide +kernel) (by rfl) (fun K hK => ?_)
          rw [if_pos (by rfl)]
          obtain ⟨z0, z1, z2⟩ := cells3 (hsl_3.row (List.mem_cons_self ..))
          have y0 := frozen_of_row _ gs 0 _ _ (hsl_3.row (List.mem_cons_self ..))
          have y1 := frozen_of_row _ gs 1 _ _ (hsl_3.row (List.mem_cons_self ..))
          have y2 := frozen_of_row _ gs 2 _ _ (hsl_3.row (List.mem_cons_self ..))
          have hgB := (hsl_3.own.head.lt (g := gs) rfl).1
          have hgw : w2.heap.size ≤ gs := hgsw
          have hQz := ((hsl_3.own.set 0 (.int .i64 (i : Int))).set 1 (.slice sA 18 sc)).set 2 (.slice sB h sd)
          have hbzz := ((hbz_3.setCell (p := ⟨gs, 0, none⟩) hgw (.int .i64 (i : Int))).setCell (p := ⟨gs, 1, none⟩) hgw (.slice sA 18 sc)).setCell (p := ⟨gs, 2, none⟩) hgw (.slice sB h sd)
          have hSz := (((hS_3.setOff (hS_3.off z0 (fun _ _ => nofun)) (.int .i64 (i : Int))).setOff (hS_3.off z1 (fun _ _ => nofun)) (.slice sA 18 sc)).setOff (hS_3.off z2 (fun _ _ => nofun)) (.slice sB h sd))
          have hTz := (((hT_3.setOff (hT_3.off z0 (fun _ _ => nofun)) (.int .i64 (i : Int))).setOff (hT_3.off z1 (fun _ _ => nofun)) (.slice sA 18 sc)).setOff (hT_3.off z2 (fun _ _ => nofun)) (.slice sB h sd))
          have hszz : (((u_3.setCell ⟨gs, 0, none⟩ (.int .i64 (i : Int))).setCell ⟨gs, 1, none⟩ (.slice sA 18 sc)).setCell ⟨gs, 2, none⟩ (.slice sB h sd)).heap.size = u_3.heap.size := by simp
          rw [← hszz] at hSz hTz
          have henvz := hH.env.next hbzz
          have hend := hide (show QS w.heap.size [(.slice (some ⟨gs, 0, none⟩) 3 3, 31, [.int .i64 (i : Int), .slice sA 18 sc, .slice sB h sd]), (.slice (some ⟨g1, 0, none⟩) 7 7, 33, [.int .i64 bm, .string bb, .int .i64 bc, .bool by_, .int .i64 bi, .slice bP bPn bPc, .slice bQ bQn bQc]), (.slice (some ⟨w.heap.size, 0, none⟩) 7 7, 33, [.int .i64 (amN : Int), .string ab, .int .i64 ac, .bool ay, .int .i64 ai, .slice aP aPn aPc, .slice aQ aQn aQc])] (((u_3.setCell ⟨gs, 0, none⟩ (.int .i64 (i : Int))).setCell ⟨gs, 1, none⟩ (.slice sA 18 sc)).setCell ⟨gs, 2, none⟩ (.slice sB h sd)) ∧ Strs (((u_3.setCell ⟨gs, 0, none⟩ (.int .i64 (i : Int))).setCell ⟨gs, 1, none⟩ (.slice sA 18 sc)).setCell ⟨gs, 2, none⟩ (.slice sB h sd)) (((u_3.setCell ⟨gs, 0, none⟩ (.int .i64 (i : Int))).setCell ⟨gs, 1, none⟩ (.slice sA 18 sc)).setCell ⟨gs, 2, none⟩ (.slice sB h sd)).heap.size sA SG ∧ Strs (((u_3.setCell ⟨gs, 0, none⟩ (.int .i64 (i : Int))).setCell ⟨gs, 1, none⟩ (.slice sA 18 sc)).setCell ⟨gs, 2, none⟩ (.slice sB h sd)) (((u_3.setCell ⟨gs, 0, none⟩ (.int .i64 (i : Int))).setCell ⟨gs, 1, none⟩ (.slice sA 18 sc)).setCell ⟨gs, 2, none⟩ (.slice sB h sd)).heap.size sB PT ∧ 18 ≤ sc ∧ h ≤ sd ∧ Below w2.heap.size w2 (((u_3.setCell ⟨gs, 0, none⟩ (.int .i64 (i : Int))).setCell ⟨gs, 1, none⟩ (.slice sA 18 sc)).setCell ⟨gs, 2, none⟩ (.slice sB h sd)) from ⟨⟨hQz, henvz⟩, hSz, hTz, hsc, hsd, hbzz⟩)
          go_simp
          refine hK.out _ _ (Or.inl (by decide +kernel)) ?_
          clear hK K
          try simp only [Act.put, List.getElem_toArray, List.getElem_cons_succ, List.getElem_cons_zero, List.setIfInBounds_toArray, List.set_cons_succ, List.set_cons_zero]
          generalize (((u_3.setCell ⟨gs, 0, none⟩ (.int .i64 (i : Int))).setCell ⟨gs, 1, none⟩ (.slice sA 18 sc)).setCell ⟨gs, 2, none⟩ (.slice sB h sd)) = u_4 at *
          refine wpAnyL_take0 (i := 16) (v := ?_) rfl (by decide +kernel) (by decide +kernel) (by decide +kernel) (by decide) (fun _ _ _ h => h) (Or.inl ⟨by rfl, ?_⟩) (Or.inl (by decide +kernel)) ?_
          rotate_left
          · intro wS hS; go_simp; (try with_reducible rfl)
          simp only [Act.put, List.getElem_toArray, List.getElem_cons_succ, List.getElem_cons_zero, List.setIfInBounds_toArray, List.set_cons_succ, List.set_cons_zero]
          refine wpAnyL_done (by decide +kernel) ?_ _
          refine NoPanic.normal ?_
          go_wp2_with fail
          go_meet
          exact ⟨gs, sA, sc, sB, sd, rfl, rfl, hend.out⟩
        · rw [if_pos (by rfl)]
          go_simp
          have hx_5 := Below.news (Below.refl u_1.heap.size u_1) (.cells #[.int .i64 0, .slice none 0 0, .slice none 0 0] 31)
          have hbz_5 := bnext hbz_1 hx_5
          have hH_5 := hH_1.below hx_5
          have hsl_5 := hH_1.lit (Nat.le_trans hb.size hbz_1.size) #[.int .i64 0, .slice none 0 0, .slice none 0 0] 31 3 rfl (by unfold maxLen; omega)
          refine hK.out _ _ (Or.inr hH_5) ?_
          clear hK K
          try simp only [Act.put, List.getElem_toArray, List.getElem_cons_succ, List.getElem_cons_zero, List.setIfInBounds_toArray, List.set_cons_succ, List.set_cons_zero]
          generalize u_1.alloc (.cells #[.int .i64 0, .slice none 0 0, .slice none 0 0] 31) = u_5 at *
          have hgsw : w2.heap.size ≤ u_1.heap.size := (by first | exact hbz_1.size)
          generalize hgs : u_1.heap.size = gs at *
          refine wpAnyL_one (i := 10) (by decide +kernel) (by rfl) (fun K hK => ?_)
          rw [if_pos (by rfl)]
          go_simp
          refine (sign_of secret M h i h i rfl rfl (by omega) (by omega) (by omega) (by rw [HN.out]; exact hin) SG PT HSG.out HPT.out _ hH_5.env).mono ?_
          rintro r u_6 ⟨sA, sc, sB, sd, rfl, hsc, hsd, hS0_6, hT0_6, hx_6⟩
          have hbz_6 := bnext hbz_5 hx_6
          have hH_6 := hH_5.below hx_6
          have hsl_6 := hsl_5.below hx_6
          refine hK.out _ _ (Or.inr hH_6) ?_
          clear hK K
          try simp only [Act.put, List.getElem_toArray, List.getElem_cons_succ, List.getElem_cons_zero, List.setIfInBounds_toArray, List.set_cons_succ, List.set_cons_zero]
          refine wpAnyL_take (i := 11) (f0 := 20) (v := ?_) rfl (by decide +kernel) (by decide +kernel) (by decide +kernel) (by decide +kernel) (by decide +kernel) (fun _ _ _ h => h) (Or.inl ⟨by rfl, ?_⟩) hH_6 ?_
          rotate_left
          · intro wS hS; go_simp; (try with_reducible rfl)
          simp only [Act.put, List.getElem_toArray, List.getElem_cons_succ, List.getElem_cons_zero, List.setIfInBounds_toArray, List.set_cons_succ, List.set_cons_zero]
          refine wpAnyL_take (i := 12) (f0 := 20) (v := ?_) rfl (by decide +kernel) (by decide +kernel) (by decide +kernel) (by decide +kernel) (by decide +kernel) (fun _ _ _ h => h) (Or.inl ⟨by rfl, ?_⟩) hH_6 ?_
          rotate_left
          · intro wS hS; go_simp; (try with_reducible rfl)
          simp only [Act.put, List.getElem_toArray, List.getElem_cons_succ, List.getElem_cons_zero, List.setIfInBounds_toArray, List.set_cons_succ, List.set_cons_zero]
          refine wpAnyL_take0 (i := 13) (v := ?_) rfl (by decide +kernel) (by decide +kernel) (by decide +kernel) (by decide) (fun _ _ _ h => h) (Or.inl ⟨by rfl, ?_⟩) (Or.inr hH_6) ?_
          rotate_left
          · intro wS _; go_simp; (try with_reducible rfl)
          simp only [Act.put, List.getElem_toArray, List.getElem_cons_succ, List.getElem_cons_zero, List.setIfInBounds_toArray, List.set_cons_succ, List.set_cons_zero]
          refine wpAnyL_one (i := 15) (by decide +kernel) (by rfl) (fun K hK => ?_)
          rw [if_pos (by rfl)]
          obtain ⟨z0, z1, z2⟩ := cells3 (hsl_6.row (List.mem_cons_self ..))
          have y0 := frozen_of_row _ gs 0 _ _ (hsl_6.row (List.mem_cons_self ..))
          have y1 := frozen_of_row _ gs 1 _ _ (hsl_6.row (List.mem_cons_self ..))
          have y2 := frozen_of_row _ gs 2 _ _ (hsl_6.row (List.mem_cons_self ..))
          have hgB := (hsl_6.own.head.lt (g := gs) rfl).1
          have hgw : w2.heap.size ≤ gs := hgsw
          have hQz := ((hsl_6.own.set 0 (.int .i64 (i : Int))).set 1 (.slice sA 18 sc)).set 2 (.slice sB h sd)
          have hbzz := ((hbz_6.setCell (p := ⟨gs, 0, none⟩) hgw (.int .i64 (i : Int))).setCell (p := ⟨gs, 1, none⟩) hgw (.slice sA 18 sc)).setCell (p := ⟨gs, 2, none⟩) hgw (.slice sB h sd)
          have hSz := (((hS0_6.setOff (hS0_6.off z0 (fun _ _ => nofun)) (.int .i64 (i : Int))).setOff (hS0_6.off z1 (fun _ _ => nofun)) (.slice sA 18 sc)).setOff (hS0_6.off z2 (fun _ _ => nofun)) (.slice sB h sd))
          have hTz := (((hT0_6.setOff (hT0_6.off z0 (fun _ _ => nofun)) (.int .i64 (i : Int))).setOff (hT0_6.off z1 (fun _ _ => nofun)) (.slice sA 18 sc)).setOff (hT0_6.off z2 (fun _ _ => nofun)) (.slice sB h sd))
          have hszz : (((u_6.setCell ⟨gs, 0, none⟩ (.int .i64 (i : Int))).setCell ⟨gs, 1, none⟩ (.slice sA 18 sc)).setCell ⟨gs, 2, none⟩ (.slice sB h sd)).heap.size = u_6.heap.size := by simp
          rw [← hszz] at hSz hTz
          have henvz := hH.env.next hbzz
          have hend := hide (show QS w.heap.size [(.slice (some ⟨gs, 0, none⟩) 3 3, 31, [.int .i64 (i : Int), .slice sA 18 sc, .slice sB h sd]), (.slice (some ⟨g1, 0, none⟩) 7 7, 33, [.int .i64 bm, .string bb, .int .i64 bc, .bool by_, .int .i64 bi, .slice bP bPn bPc, .slice bQ bQn bQc]), (.slice (some ⟨w.heap.size, 0, none⟩) 7 7, 33, [.int .i64 (amN : Int), .string ab, .int .i64 ac, .bool ay, .int .i64 ai, .slice aP aPn aPc, .slice aQ aQn aQc])] (((u_6.setCell ⟨gs, 0, none⟩ (.int .i64 (i : Int))).setCell ⟨gs, 1, none⟩ (.slice sA 18 sc)).setCell ⟨gs, 2, none⟩ (.slice sB h sd)) ∧ Strs (((u_6.setCell ⟨gs, 0, none⟩ (.int .i64 (i : Int))).setCell ⟨gs, 1, none⟩ (.slice sA 18 sc)).setCell ⟨gs, 2, none⟩ (.slice sB h sd)) (((u_6.setCell ⟨gs, 0, none⟩ (.int .i64 (i : Int))).setCell ⟨gs, 1, none⟩ (.slice sA 18 sc)).setCell ⟨gs, 2, none⟩ (.slice sB h sd)).heap.size sA SG ∧ Strs (((u_6.setCell ⟨gs, 0, none⟩ (.int .i64 (i : Int))).setCell ⟨gs, 1, none⟩ (.slice sA 18 sc)).setCell ⟨gs, 2, none⟩ (.slice sB h sd)) (((u_6.setCell ⟨gs, 0, none⟩ (.int .i64 (i : Int))).setCell ⟨gs, 1, none⟩ (.slice sA 18 sc)).setCell ⟨gs, 2, none⟩ (.slice sB h sd)).heap.size sB PT ∧ 18 ≤ sc ∧ h ≤ sd ∧ Below w2.heap.size w2 (((u_6.setCell ⟨gs, 0, none⟩ (.int .i64 (i : Int))).setCell ⟨gs, 1, none⟩ (.slice sA 18 sc)).setCell ⟨gs, 2, none⟩ (.slice sB h sd)) from ⟨⟨hQz, henvz⟩, hSz, hTz, hsc, hsd, hbzz⟩)
          go_simp
          refine hK.out _ _ (Or.inl (by decide +kernel)) ?_
          clear hK K
          try simp only [Act.put, List.getElem_toArray, List.getElem_cons_succ, List.getElem_cons_zero, List.setIfInBounds_toArray, List.set_cons_succ, List.set_cons_zero]
          generalize (((u_6.setCell ⟨gs, 0, none⟩ (.int .i64 (i : Int))).setCell ⟨gs, 1, none⟩ (.slice sA 18 sc)).setCell ⟨gs, 2, none⟩ (.slice sB h sd)) = u_7 at *
          refine wpAnyL_take0 (i := 16) (v := ?_) rfl (by decide +kernel) (by decide +kernel) (by decide +kernel) (by decide) (fun _ _ _ h => h) (Or.inl ⟨by rfl, ?_⟩) (Or.inl (by decide +kernel)) ?_
          rotate_left
          · intro wS hS; go_simp; (try with_reducible rfl)
          simp only [Act.put, List.getElem_toArray, List.getElem_cons_succ, List.getElem_cons_zero, List.setIfInBounds_toArray, List.set_cons_succ, List.set_cons_zero]
          refine wpAnyL_done (by decide +kernel) ?_ _
          refine NoPanic.normal ?_
          go_wp2_with fail
          go_meet
          exact ⟨gs, sA, sc, sB, sd, rfl, rfl, hend.out⟩
      · rw [if_pos (by rfl)]
        go_simp
        have hx_8 := Below.news (Below.refl u0.heap.size u0) (.cells #[.int .i64 0, .slice none 0 0, .slice none 0 0] 31)
        have hbz_8 := bnext hbz0 hx_8
        have hH_8 := hHeld.below hx_8
        have hsl_8 := hHeld.lit (Nat.le_trans hb.size hbz0.size) #[.int .i64 0, .slice none 0 0, .slice none 0 0] 31 3 rfl (by unfold maxLen; omega)
        refine hK.out _ _ (Or.inr hH_8) ?_
        clear hK K
        try simp only [Act.put, List.getElem_toArray, List.getElem_cons_succ, List.getElem_cons_zero, List.setIfInBounds_toArray, List.set_cons_succ, List.set_cons_zero]
        generalize u0.alloc (.cells #[.int .i64 0, .slice none 0 0, .slice none 0 0] 31) = u_8 at *
        have hgsw : w2.heap.size ≤ u0.heap.size := (by first | exact hbz0.size)
        generalize hgs : u0.heap.size = gs at *
        refine wpAnyL_one (i := 9) (by decide +kernel) (by rfl) (fun K hK => ?_)
        rw [if_pos (by rfl)]
        go_simp
        refine (vmsg_any (amN : Int) ab ac ay _ _ _ HB.out.1 HB.out.2.1 HB.out.2.2.1 HB.out.2.2.2.1 (by omega) M HMM.out _ hH_8.env).mono ?_
        rintro r u_9 ⟨rfl, hx_9⟩
        have hbz_9 := bnext hbz_8 hx_9
        have hH_9 := hH_8.below hx_9
        have hsl_9 := hsl_8.below hx_9
        refine hK.out _ _ (Or.inr hH_9) ?_
        clear hK K
        try simp only [Act.put, List.getElem_toArray, List.getElem_cons_succ, List.getElem_cons_zero, List.setIfInBounds_toArray, List.set_cons_succ, List.set_cons_zero]
        refine wpAnyL_one (i := 10) (by decide +kernel) (by rfl) (fun K hK => ?_)
        rw [if_pos (by rfl)]
        go_simp
        refine (sign_of secret M h i h i rfl rfl (by omega) (by omega) (by omega) (by rw [HN.out]; exact hin) SG PT HSG.out HPT.out _ hH_9.env).mono ?_
        rintro r u_10 ⟨sA, sc, sB, sd, rfl, hsc, hsd, hS0_10, hT0_10, hx_10⟩
        have hbz_10 := bnext hbz_9 hx_10
        have hH_10 := hH_9.below hx_10
        have hsl_10 := hsl_9.below hx_10
        refine hK.out _ _ (Or.inr hH_10) ?_
        clear hK K
        try simp only [Act.put, List.getElem_toArray, List.getElem_cons_succ, List.getElem_cons_zero, List.setIfInBounds_toArray, List.set_cons_succ, List.set_cons_zero]
        refine wpAnyL_take (i := 11) (f0 := 20) (v := ?_) rfl (by decide +kernel) (by decide +kernel) (by decide +kernel) (by decide +kernel) (by decide +kernel) (fun _ _ _ h => h) (Or.inl ⟨by rfl, ?_⟩) hH_10 ?_
        rotate_left
        · intro wS hS; go_simp; (try with_reducible rfl)
        simp only [Act.put, List.getElem_toArray, List.getElem_cons_succ, List.getElem_cons_zero, List.setIfInBounds_toArray, List.set_cons_succ, List.set_cons_zero]
        refine wpAnyL_take (i := 12) (f0 := 20) (v := ?_) rfl (by decide +kernel) (by decide +kernel) (by decide +kernel) (by decide +kernel) (by decide +kernel) (fun _ _ _ h => h) (Or.inl ⟨by rfl, ?_⟩) hH_10 ?_
        rotate_left
        · intro wS hS; go_simp; (try with_reducible rfl)
        simp only [Act.put, List.getElem_toArray, List.getElem_cons_succ, List.getElem_cons_zero, List.setIfInBounds_toArray, List.set_cons_succ, List.set_cons_zero]
        refine wpAnyL_take0 (i := 13) (v := ?_) rfl (by decide +kernel) (by decide +kernel) (by decide +kernel) (by decide) (fun _ _ _ h => h) (Or.inl ⟨by rfl, ?_⟩) (Or.inr hH_10) ?_
        rotate_left
        · intro wS _; go_simp; (try with_reducible rfl)
        simp only [Act.put, List.getElem_toArray, List.getElem_cons_succ, List.getElem_cons_zero, List.setIfInBounds_toArray, List.set_cons_succ, List.set_cons_zero]
        refine wpAnyL_one (i := 15) (by decide +kernel) (by rfl) (fun K hK => ?_)
        rw [if_pos (by rfl)]
        obtain ⟨z0, z1, z2⟩ := cells3 (hsl_10.row (List.mem_cons_self ..))
        have y0 := frozen_of_row _ gs 0 _ _ (hsl_10.row (List.mem_cons_self ..))
        have y1 := frozen_of_row _ gs 1 _ _ (hsl_10.row (List.mem_cons_self ..))
        have y2 := frozen_of_row _ gs 2 _ _ (hsl_10.row (List.mem_cons_self ..))
        have hgB := (hsl_10.own.head.lt (g := gs) rfl).1
        have hgw : w2.heap.size ≤ gs := hgsw
        have hQz := ((hsl_10.own.set 0 (.int .i64 (i : Int))).set 1 (.slice sA 18 sc)).set 2 (.slice sB h sd)
        have hbzz := ((hbz_10.setCell (p := ⟨gs, 0, none⟩) hgw (.int .i64 (i : Int))).setCell (p := ⟨gs, 1, none⟩) hgw (.slice sA 18 sc)).setCell (p := ⟨gs, 2, none⟩) hgw (.slice sB h sd)
        have hSz := (((hS0_10.setOff (hS0_10.off z0 (fun _ _ => nofun)) (.int .i64 (i : Int))).setOff (hS0_10.off z1 (fun _ _ => nofun)) (.slice sA 18 sc)).setOff (hS0_10.off z2 (fun _ _ => nofun)) (.slice sB h sd))
        have hTz := (((hT0_10.setOff (hT0_10.off z0 (fun _ _ => nofun)) (.int .i64 (i : Int))).setOff (hT0_10.off z1 (fun _ _ => nofun)) (.slice sA 18 sc)).setOff (hT0_10.off z2 (fun _ _ => nofun)) (.slice sB h sd))
        have hszz : (((u_10.setCell ⟨gs, 0, none⟩ (.int .i64 (i : Int))).setCell ⟨gs, 1, none⟩ (.slice sA 18 sc)).setCell ⟨gs, 2, none⟩ (.slice sB h sd)).heap.size = u_10.heap.size := by simp
        rw [← hszz] at hSz hTz
        have henvz := hH.env.next hbzz
        have hend := hide (show QS w.heap.size [(.slice (some ⟨gs, 0, none⟩) 3 3, 31, [.int .i64 (i : Int), .slice sA 18 sc, .slice sB h sd]), (.slice (some ⟨g1, 0, none⟩) 7 7, 33, [.int .i64 bm, .string bb, .int .i64 bc, .bool by_, .int .i64 bi, .slice bP bPn bPc, .slice bQ bQn bQc]), (.slice (some ⟨w.heap.size, 0, none⟩) 7 7, 33, [.int .i64 (amN : Int), .string ab, .int .i64 ac, .bool ay, .int .i64 ai, .slice aP aPn aPc, .slice aQ aQn aQc])] (((u_10.setCell ⟨gs, 0, none⟩ (.int .i64 (i : Int))).setCell ⟨gs, 1, none⟩ (.slice sA 18 sc)).setCell ⟨gs, 2, none⟩ (.slice sB h sd)) ∧ Strs (((u_10.setCell ⟨gs, 0, none⟩ (.int .i64 (i : Int))).setCell ⟨gs, 1, none⟩ (.slice sA 18 sc)).setCell ⟨gs, 2, none⟩ (.slice sB h sd)) (((u_10.setCell ⟨gs, 0, none⟩ (.int .i64 (i : Int))).setCell ⟨gs, 1, none⟩ (.slice sA 18 sc)).setCell ⟨gs, 2, none⟩ (.slice sB h sd)).heap.size sA SG ∧ Strs (((u_10.setCell ⟨gs, 0, none⟩ (.int .i64 (i : Int))).setCell ⟨gs, 1, none⟩ (.slice sA 18 sc)).setCell ⟨gs, 2, none⟩ (.slice sB h sd)) (((u_10.setCell ⟨gs, 0, none⟩ (.int .i64 (i : Int))).setCell ⟨gs, 1, none⟩ (.slice sA 18 sc)).setCell ⟨gs, 2, none⟩ (.slice sB h sd)).heap.size sB PT ∧ 18 ≤ sc ∧ h ≤ sd ∧ Below w2.heap.size w2 (((u_10.setCell ⟨gs, 0, none⟩ (.int .i64 (i : Int))).setCell ⟨gs, 1, none⟩ (.slice sA 18 sc)).setCell ⟨gs, 2, none⟩ (.slice sB h sd)) from ⟨⟨hQz, henvz⟩, hSz, hTz, hsc, hsd, hbzz⟩)
        go_simp
        refine hK.out _ _ (Or.inl (by decide +kernel)) ?_
        clear hK K
        try simp only [Act.put, List.getElem_toArray, List.getElem_cons_succ, List.getElem_cons_zero, List.setIfInBounds_toArray, List.set_cons_succ, List.set_cons_zero]
        generalize (((u_10.setCell ⟨gs, 0, none⟩ (.int .i64 (i : Int))).setCell ⟨gs, 1, none⟩ (.slice sA 18 sc)).setCell ⟨gs, 2, none⟩ (.slice sB h sd)) = u_11 at *
        refine wpAnyL_take0 (i := 16) (v := ?_) rfl (by decide +kernel) (by decide +kernel) (by decide +kernel) (by decide) (fun _ _ _ h => h) (Or.inl ⟨by rfl, ?_⟩) (Or.inl (by decide +kernel)) ?_
        rotate_left
        · intro wS hS; go_simp; (try with_reducible rfl)
        simp only [Act.put, List.getElem_toArray, List.getElem_cons_succ, List.getElem_cons_zero, List.setIfInBounds_toArray, List.set_cons_succ, List.set_cons_zero]
        refine wpAnyL_done (by decide +kernel) ?_ _
        refine NoPanic.normal ?_
        go_wp2_with fail
        go_meet
        exact ⟨gs, sA, sc, sB, sd, rfl, rfl, hend.out⟩
    case rest =>
      obtain ⟨gs, sA, sc, sB, sd, rfl, rfl, hH2, hS, hT, hsc, hsd, hb3⟩ := hcut
      replace hb := bnext hb hb3
      have hBsz : w.heap.size ≤ wc.heap.size := hb.size
      clear hH hb3
      have hH := hH2; clear hH2
      have hI : VtIn wc wc.heap.size ⟨(amN : Int), ab, ac, ay, i, SG, PT⟩ sA sB sc sd := ⟨hS, by rw [hSl.out]; exact hsc, hT, by rw [hTl.out]; exact hsd⟩
      clear hS hT
      generalize wc = w3 at *
      obtain ⟨a0, a1, a2, a3, a4, a5, a6⟩ := cells7 (hH.row (List.mem_cons_of_mem _ (List.mem_cons_of_mem _ (List.mem_cons_self ..))))
      have hR0 := OwnL.emptyS ((OwnL.nil w3 w3.heap.size).lit (Nat.le_refl _) #[.int .i64 ac, .slice none 0 0, .int .i64 1, .int .i64 0, .int .i64 1] 24 5 rfl (by unfold maxLen; omega))
      have hx4 := Below.news (Below.refl w3.heap.size w3) (.cells #[.int .i64 ac, .slice none 0 0, .int .i64 1, .int .i64 0, .int .i64 1] 24)
      have hlt3 : ∀ r ∈ [(.slice (some ⟨gs, 0, none⟩) 3 3, 31, [.int .i64 (i : Int), .slice sA 18 sc, .slice sB h sd]), (.slice (some ⟨g1, 0, none⟩) 7 7, 33, [.int .i64 bm, .string bb, .int .i64 bc, .bool by_, .int .i64 bi, .slice bP bPn bPc, .slice bQ bQn bQc]), (.slice (some ⟨w.heap.size, 0, none⟩) 7 7, 33, [.int .i64 (amN : Int), .string ab, .int .i64 ac, .bool ay, .int .i64 ai, .slice aP aPn aPc, .slice aQ aQn aQc])], ∀ g, (r : Value × TypeId × List Value).1.ownBlock = some g → g < w3.heap.size := fun r hr g hg => ((hH.own.own r hr).lt hg).2
      go_wp2_with fail
      generalize w3.alloc (.cells #[.int .i64 ac, .slice none 0 0, .int .i64 1, .int .i64 0, .int .i64 1] 24) = w4 at *
      generalize hgr : w3.heap.size = gr at *
      go_loopw [16] (fun iv wr => ∃ (k : Nat) (v : Value), k ≤ amN + 1 ∧ iv = .int .i64 (k : Int) ∧ OwnL wr gr [sR v (List.replicate k Q), (.slice (some ⟨gr, 0, none⟩) 5 5, 24, [.int .i64 ac, v, .int .i64 1, .int .i64 0, .int .i64 1])] ∧ Below gr w3 wr) (fun iv _ => amN + 1 - (intOf iv).toNat)
      case atStart => exact ⟨0, _, by omega, rfl, hR0, hx4⟩
      case round =>
        obtain ⟨k, v, hk, rfl, hLr, hbr⟩ := hrel
        have hbr' : Below w3.heap.size w3 wr := by rw [hgr]; exact hbr
        have hHr := hH.below hbr'
        obtain ⟨a0, a1, a2, a3, a4, a5, a6⟩ := cells7 (hHr.row (List.mem_cons_of_mem _ (List.mem_cons_of_mem _ (List.mem_cons_self ..))))
        by_cases hlt : k < amN + 1
        · have d1 : decide ((k : Int) ≤ (amN : Int)) = true := dec_t (by omega)
          have d1' : decide (k ≤ amN) = true := dec_t (by omega)
          have hkl : (List.replicate k Q).length = k := List.length_replicate
          have hlen : (List.replicate k Q ++ [Q]).length = k + 1 := by rw [List.length_append, hkl]; rfl
          have hrs : Hid (List.replicate (k + 1) Q = List.replicate k Q ++ [Q]) := List.replicate_succ'
          have p1 : wr.cell? ⟨gr, 1, none⟩ = some v := by rw [cell_of_row _ _ _ _ _ (0, 0) (OwnV.row hLr.swap.head)]; rfl
          have hs1 := hbr.size
          rw [hgr] at hs1
          go_wp2_with (at_builtin; refine step_ll rfl (.tmp 102) (.tmp 104) rfl gr _ (List.replicate k Q) [Q] _ _ rfl rfl hLr 1 1 rfl rfl (by omega) hs1 ?_; intro v2 w5 hL2 hb2; obtain ⟨A2, n2, hv2, _, _⟩ := OwnL.strsM hL2; rw [hlen] at hv2; subst hv2; have p2 : w5.cell? ⟨gr, 1, none⟩ = some v := (by rw [cell_of_row _ _ _ _ _ (0, 0) (OwnV.row hL2.swap.head)]; rfl); have fz := frozen_of_row _ gr 1 _ _ (OwnV.row hL2.swap.head); have hgB := (hL2.swap.head.lt (g := gr) rfl).1)
          have hL3 := (hL2.swap.set 1 (.slice A2 (k + 1) n2)).swap
          have hb3 := (hbr.trans hb2).setCell (p := ⟨gr, 1, none⟩) hgB (.slice A2 (k + 1) n2)
          clear p1 p2 fz
          go_roundw
          case rel => exact ⟨k + 1, _, by omega, by go_num, by rw [hrs.out]; exact hL3, hb3⟩
          case measure => simp [intOf]; omega
        · obtain rfl : k = amN + 1 := by omega
          have d1 : decide (((amN + 1 : Nat) : Int) ≤ (amN : Int)) = false := dec_f (by omega)
          have d1' : decide (amN + 1 ≤ amN) = false := dec_f (by omega)
          have d1'' : decide ((amN : Int) + 1 ≤ (amN : Int)) = false := dec_f (by omega)
          replace hI := VtIn.keep (w := w3) (by rw [hgr]; exact hI) hbr'
          replace hb := bnext hb hbr'
          have hJ : OwnL wr w.heap.size ([sR v (List.replicate (amN + 1) Q), (.slice (some ⟨gr, 0, none⟩) 5 5, 24, [.int .i64 ac, v, .int .i64 1, .int .i64 0, .int .i64 1])] ++ [(.slice (some ⟨gs, 0, none⟩) 3 3, 31, [.int .i64 (i : Int), .slice sA 18 sc, .slice sB h sd]), (.slice (some ⟨g1, 0, none⟩) 7 7, 33, [.int .i64 bm, .string bb, .int .i64 bc, .bool by_, .int .i64 bi, .slice bP bPn bPc, .slice bQ bQn bQc]), (.slice (some ⟨w.heap.size, 0, none⟩) 7 7, 33, [.int .i64 (amN : Int), .string ab, .int .i64 ac, .bool ay, .int .i64 ai, .slice aP aPn aPc, .slice aQ aQn aQc])]) := OwnL.join hLr hHr.own hBsz hlt3
          have hE := hHr.env
          clear hHr hH hLr hR0 hx4 hbr hbr' hlt3
          obtain ⟨kA, kc2, rfl, hkc, _⟩ := OwnL.strsM hJ
          rw [List.length_replicate] at hJ
          go_upto_region 14 with (fail)
          go_cut [] from 107 to 110 (fun wx => QS w.heap.size [sR (.slice kA (amN + 1) kc2) (List.replicate (amN + 1) Q), (.slice (some ⟨gr, 0, none⟩) 5 5, 24, [.int .i64 ac, (.slice kA (amN + 1) kc2), .int .i64 1, .int .i64 0, .int .i64 1]), (.slice (some ⟨gs, 0, none⟩) 3 3, 31, [.int .i64 (i : Int), .slice sA 18 sc, .slice sB h sd]), (.slice (some ⟨g1, 0, none⟩) 7 7, 33, [.int .i64 bm, .string bb, .int .i64 bc, .bool by_, .int .i64 (i : Int), .slice sA 18 sc, .slice sB h sd]), (.slice (some ⟨w.heap.size, 0, none⟩) 7 7, 33, [.int .i64 (amN : Int), .string ab, .int .i64 ac, .bool ay, .int .i64 (i : Int), .slice sA 18 sc, .slice sB h sd])] wx ∧ VtIn wx wx.heap.size ⟨(amN : Int), ab, ac, ay, i, SG, PT⟩ sA sB sc sd ∧ Below w.heap.size w wx)
          case first =>
            have hmx : Tryd.prog.follows .mixedOrders = true := by kernel_rfl
            have hJd := hJ.drewM
            have hId := hI.keep (Below.refl wr.heap.size wr).drew
            have hbd := hb.drew
            have hHeld : (fun X : World => X.heap[gs]? = some (.cells #[.int .i64 (i : Int), .slice sA 18 sc, .slice sB h sd] 31 (0, 0))) wr.drew := OwnV.row (hJd.own _ (List.mem_cons_of_mem _ (List.mem_cons_of_mem _ (List.mem_cons_self ..))))
            refine wp_region_noPanic ?_
            refine wp_region_L (fun X : World => X.heap[gs]? = some (.cells #[.int .i64 (i : Int), .slice sA 18 sc, .slice sB h sd] 31 (0, 0))) 5 hmx ?_
            generalize wr.drew = u0 at *
            clear hI hJ hb
            refine wpAnyL_take (i := 0) (f0 := 8) (v := ?_) rfl (by decide +kernel) (by decide +kernel) (by decide +kernel) (by decide +kernel) (by decide +kernel) (fun _ _ _ h => h) (Or.inl ⟨by rfl, ?_⟩) hHeld ?_
            rotate_left
            · intro wS hS; obtain ⟨s0, s1, s2⟩ := cells3 hS; go_simp; (try with_reducible rfl)
            simp only [Act.put, List.getElem_toArray, List.getElem_cons_zero, List.setIfInBounds_toArray, List.set_cons_succ, List.set_cons_zero]
            refine wpAnyL_take (i := 1) (f0 := 8) (v := ?_) rfl (by decide +kernel) (by decide +kernel) (by decide +kernel) (by decide +kernel) (by decide +kernel) (fun _ _ _ h => h) (Or.inl ⟨by rfl, ?_⟩) hHeld ?_
            rotate_left
            · intro wS hS; obtain ⟨s0, s1, s2⟩ := cells3 hS; go_simp; (try with_reducible rfl)
            simp only [Act.put, List.getElem_toArray, List.getElem_cons_succ, List.getElem_cons_zero, List.setIfInBounds_toArray, List.set_cons_succ, List.set_cons_zero]
            refine wpAnyL_take (i := 2) (f0 := 8) (v := ?_) rfl (by decide +kernel) (by decide +kernel) (by decide +kernel) (by decide +kernel) (by decide +kernel) (fun _ _ _ h => h) (Or.inl ⟨by rfl, ?_⟩) hHeld ?_
            rotate_left
            · intro wS hS; go_simp; (try with_reducible rfl)
            simp only [Act.put, List.getElem_toArray, List.getElem_cons_succ, List.getElem_cons_zero, List.setIfInBounds_toArray, List.set_cons_succ, List.set_cons_zero]
            obtain ⟨a0, a1, a2, a3, a4, a5, a6⟩ := cells7 (OwnV.row (hJd.own _ (List.mem_cons_of_mem _ (List.mem_cons_of_mem _ (List.mem_cons_of_mem _ (List.mem_cons_of_mem _ (List.mem_cons_self ..)))))))
            have fa4 := frozen_of_row _ w.heap.size 4 _ _ (OwnV.row (hJd.own _ (List.mem_cons_of_mem _ (List.mem_cons_of_mem _ (List.mem_cons_of_mem _ (List.mem_cons_of_mem _ (List.mem_cons_self ..)))))))
            have fa5 := frozen_of_row _ w.heap.size 5 _ _ (OwnV.row (hJd.own _ (List.mem_cons_of_mem _ (List.mem_cons_of_mem _ (List.mem_cons_of_mem _ (List.mem_cons_of_mem _ (List.mem_cons_self ..)))))))
            have fa6 := frozen_of_row _ w.heap.size 6 _ _ (OwnV.row (hJd.own _ (List.mem_cons_of_mem _ (List.mem_cons_of_mem _ (List.mem_cons_of_mem _ (List.mem_cons_of_mem _ (List.mem_cons_self ..)))))))
            have hJa := (((hJd.perm (List.perm_append_comm (l₁ := [_, _, _, _]) (l₂ := [_]))).set 4 (.int .i64 (i : Int))).set 5 (.slice sA 18 sc)).set 6 (.slice sB h sd)
            have hba := ((hbd.setCell (p := ⟨w.heap.size, 4, none⟩) (Nat.le_refl _) (.int .i64 (i : Int))).setCell (p := ⟨w.heap.size, 5, none⟩) (Nat.le_refl _) (.slice sA 18 sc)).setCell (p := ⟨w.heap.size, 6, none⟩) (Nat.le_refl _) (.slice sB h sd)
            have hS1 := ((hId.1.setOff (hId.1.off a4 (fun _ _ => nofun)) (.int .i64 (i : Int))).setOff (hId.1.off a5 (fun _ _ => nofun)) (.slice sA 18 sc)).setOff (hId.1.off a6 (fun _ _ => nofun)) (.slice sB h sd)
            have hT1 := ((hId.2.2.1.setOff (hId.2.2.1.off a4 (fun _ _ => nofun)) (.int .i64 (i : Int))).setOff (hId.2.2.1.off a5 (fun _ _ => nofun)) (.slice sA 18 sc)).setOff (hId.2.2.1.off a6 (fun _ _ => nofun)) (.slice sB h sd)
            have hz1 : (((u0.setCell ⟨w.heap.size, 4, none⟩ (.int .i64 (i : Int))).setCell ⟨w.heap.size, 5, none⟩ (.slice sA 18 sc)).setCell ⟨w.heap.size, 6, none⟩ (.slice sB h sd)).heap.size = u0.heap.size := by simp
            rw [← hz1] at hS1 hT1
            have hHeld1 : (fun X : World => X.heap[gs]? = some (.cells #[.int .i64 (i : Int), .slice sA 18 sc, .slice sB h sd] 31 (0, 0))) (((u0.setCell ⟨w.heap.size, 4, none⟩ (.int .i64 (i : Int))).setCell ⟨w.heap.size, 5, none⟩ (.slice sA 18 sc)).setCell ⟨w.heap.size, 6, none⟩ (.slice sB h sd)) := OwnV.row (hJa.own _ (List.mem_cons_of_mem _ (List.mem_cons_of_mem _ (List.mem_cons_of_mem _ (List.mem_cons_self ..)))))
            refine wpAnyL_one (i := 3) (by decide +kernel) (by rfl) (fun K hK => ?_)
            rw [if_pos (by rfl)]
            go_simp
            refine hK.out _ _ (Or.inr hHeld1) ?_
            clear hK K
            try simp only [Act.put, List.getElem_toArray, List.getElem_cons_succ, List.getElem_cons_zero, List.setIfInBounds_toArray, List.set_cons_succ, List.set_cons_zero]
            clear a0 a1 a2 a3 a4 a5 a6 fa4 fa5 fa6 hJd hbd hHeld hz1
            generalize (((u0.setCell ⟨w.heap.size, 4, none⟩ (.int .i64 (i : Int))).setCell ⟨w.heap.size, 5, none⟩ (.slice sA 18 sc)).setCell ⟨w.heap.size, 6, none⟩ (.slice sB h sd)) = u1 at *
            refine wpAnyL_take (i := 4) (f0 := 8) (v := ?_) rfl (by decide +kernel) (by decide +kernel) (by decide +kernel) (by decide +kernel) (by decide +kernel) (fun _ _ _ h => h) (Or.inl ⟨by rfl, ?_⟩) hHeld1 ?_
            rotate_left
            · intro wS hS; go_simp; (try with_reducible rfl)
            simp only [Act.put, List.getElem_toArray, List.getElem_cons_succ, List.getElem_cons_zero, List.setIfInBounds_toArray, List.set_cons_succ, List.set_cons_zero]
            obtain ⟨b0, b1, b2, b3, b4, b5, b6⟩ := cells7 (OwnV.row (hJa.own _ (List.mem_cons_of_mem _ (List.mem_cons_of_mem _ (List.mem_cons_of_mem _ (List.mem_cons_of_mem _ (List.mem_cons_self ..)))))))
            have fb4 := frozen_of_row _ g1 4 _ _ (OwnV.row (hJa.own _ (List.mem_cons_of_mem _ (List.mem_cons_of_mem _ (List.mem_cons_of_mem _ (List.mem_cons_of_mem _ (List.mem_cons_self ..)))))))
            have fb5 := frozen_of_row _ g1 5 _ _ (OwnV.row (hJa.own _ (List.mem_cons_of_mem _ (List.mem_cons_of_mem _ (List.mem_cons_of_mem _ (List.mem_cons_of_mem _ (List.mem_cons_self ..)))))))
            have fb6 := frozen_of_row _ g1 6 _ _ (OwnV.row (hJa.own _ (List.mem_cons_of_mem _ (List.mem_cons_of_mem _ (List.mem_cons_of_mem _ (List.mem_cons_of_mem _ (List.mem_cons_self ..)))))))
            have hgb := ((hJa.own _ (List.mem_cons_of_mem _ (List.mem_cons_of_mem _ (List.mem_cons_of_mem _ (List.mem_cons_of_mem _ (List.mem_cons_self ..)))))).lt (g := g1) rfl).1
            have hJb := (((hJa.perm (List.perm_append_comm (l₁ := [_, _, _, _]) (l₂ := [_]))).set 4 (.int .i64 (i : Int))).set 5 (.slice sA 18 sc)).set 6 (.slice sB h sd)
            have hbb := ((hba.setCell (p := ⟨g1, 4, none⟩) hgb (.int .i64 (i : Int))).setCell (p := ⟨g1, 5, none⟩) hgb (.slice sA 18 sc)).setCell (p := ⟨g1, 6, none⟩) hgb (.slice sB h sd)
            have hS2 := ((hS1.setOff (hS1.off b4 (fun _ _ => nofun)) (.int .i64 (i : Int))).setOff (hS1.off b5 (fun _ _ => nofun)) (.slice sA 18 sc)).setOff (hS1.off b6 (fun _ _ => nofun)) (.slice sB h sd)
            have hT2 := ((hT1.setOff (hT1.off b4 (fun _ _ => nofun)) (.int .i64 (i : Int))).setOff (hT1.off b5 (fun _ _ => nofun)) (.slice sA 18 sc)).setOff (hT1.off b6 (fun _ _ => nofun)) (.slice sB h sd)
            have hz2 : (((u1.setCell ⟨g1, 4, none⟩ (.int .i64 (i : Int))).setCell ⟨g1, 5, none⟩ (.slice sA 18 sc)).setCell ⟨g1, 6, none⟩ (.slice sB h sd)).heap.size = u1.heap.size := by simp
            rw [← hz2] at hS2 hT2
            have hend : QS w.heap.size [sR (.slice kA (amN + 1) kc2) (List.replicate (amN + 1) Q), (.slice (some ⟨gr, 0, none⟩) 5 5, 24, [.int .i64 ac, (.slice kA (amN + 1) kc2), .int .i64 1, .int .i64 0, .int .i64 1]), (.slice (some ⟨gs, 0, none⟩) 3 3, 31, [.int .i64 (i : Int), .slice sA 18 sc, .slice sB h sd]), (.slice (some ⟨g1, 0, none⟩) 7 7, 33, [.int .i64 bm, .string bb, .int .i64 bc, .bool by_, .int .i64 (i : Int), .slice sA 18 sc, .slice sB h sd]), (.slice (some ⟨w.heap.size, 0, none⟩) 7 7, 33, [.int .i64 (amN : Int), .string ab, .int .i64 ac, .bool ay, .int .i64 (i : Int), .slice sA 18 sc, .slice sB h sd])] (((u1.setCell ⟨g1, 4, none⟩ (.int .i64 (i : Int))).setCell ⟨g1, 5, none⟩ (.slice sA 18 sc)).setCell ⟨g1, 6, none⟩ (.slice sB h sd)) ∧ VtIn (((u1.setCell ⟨g1, 4, none⟩ (.int .i64 (i : Int))).setCell ⟨g1, 5, none⟩ (.slice sA 18 sc)).setCell ⟨g1, 6, none⟩ (.slice sB h sd)) (((u1.setCell ⟨g1, 4, none⟩ (.int .i64 (i : Int))).setCell ⟨g1, 5, none⟩ (.slice sA 18 sc)).setCell ⟨g1, 6, none⟩ (.slice sB h sd)).heap.size ⟨(amN : Int), ab, ac, ay, i, SG, PT⟩ sA sB sc sd ∧ Below w.heap.size w (((u1.setCell ⟨g1, 4, none⟩ (.int .i64 (i : Int))).setCell ⟨g1, 5, none⟩ (.slice sA 18 sc)).setCell ⟨g1, 6, none⟩ (.slice sB h sd)) := ⟨⟨hJb.perm (List.perm_append_comm (l₁ := [_, _]) (l₂ := [_, _, _])), he.next hbb⟩, ⟨hS2, hId.2.1, hT2, hId.2.2.2⟩, hbb⟩
            refine wpAnyL_one (i := 5) (by decide +kernel) (by rfl) (fun K hK => ?_)
            rw [if_pos (by rfl)]
            go_simp
            refine hK.out _ _ (Or.inl (by decide +kernel)) ?_
            clear hK K
            try simp only [Act.put, List.getElem_toArray, List.getElem_cons_succ, List.getElem_cons_zero, List.setIfInBounds_toArray, List.set_cons_succ, List.set_cons_zero]
            clear b0 b1 b2 b3 b4 b5 b6 fb4 fb5 fb6 hz2 hHeld1 hS1 hT1 hS2 hT2 hJa hJb hba hbb
            generalize (((u1.setCell ⟨g1, 4, none⟩ (.int .i64 (i : Int))).setCell ⟨g1, 5, none⟩ (.slice sA 18 sc)).setCell ⟨g1, 6, none⟩ (.slice sB h sd)) = u2 at *
            refine wpAnyL_done (by decide +kernel) ?_ _
            refine NoPanic.normal ?_
            go_wp2_with fail
            go_meet
            exact hend
          case rest =>
            obtain ⟨hH, hI, hb⟩ := hcut
            clear hJ hE
            generalize wc = w5 at *
            have hQd : Dg.isB Q = true := by rw [← HQ.out]; exact verifyB_digest (verifyB_self secret ⟨#[]⟩ h 0 (by omega) (Nat.pos_of_ne_zero (by rw [HN.out]; omega)))
            have hQ16 : Q.size = 16 := Dg.isB_len hQd
            have hKz : ∀ s ∈ List.replicate (amN + 1) Q, s.size ≤ 4611686018427387904 := fun s hs => by rw [(List.mem_replicate.1 hs).2, hQ16]; decide
            have hSG : ∀ s ∈ SG, s.size ≤ 1073741824 := fun s hs => by rw [← HSG.out] at hs; rw [Dg.isB_len (Dg.sigB_isB secret i M s hs)]; decide
            have hPT : ∀ s ∈ PT, s.size ≤ 1073741824 := fun s hs => by rw [← HPT.out] at hs; rw [Dg.isB_len (Dg.sealPath_isB secret h i s hs)]; decide
            have hva : Vt0 ⟨(amN : Int), ab, ac, ay, i, SG, PT⟩ := ⟨by show -9223372036854775808 ≤ (amN : Int); omega, by show (amN : Int) ≤ 9223372036854775807; omega, HB.out.2.2.1, HB.out.2.2.2.1, by show ab.size ≤ 1073741824; omega, hSG, hPT⟩
            have hvb : Vt0 ⟨bm, bb, bc, by_, i, SG, PT⟩ := ⟨HB.out.2.2.2.2.1, HB.out.2.2.2.2.2.1, HB.out.2.2.2.2.2.2.1, HB.out.2.2.2.2.2.2.2, by show bb.size ≤ 1073741824; omega, hSG, hPT⟩
            have hcnt : Dg.cnt ⟨ac, List.replicate (amN + 1) Q, 1, 0, 1⟩ ab [⟨(amN : Int), ab, ac, ay, i, SG, PT⟩] = ⟨[(amN : Int)], if ay then 1 else 0, if ay then 0 else 1, []⟩ := by
              have := Dg.signed_counts secret h i amN ab ac ay (by omega) (by rw [HN.out]; exact hin) kc (by omega)
              rw [HQ.out, HMM.out, HSG.out, HPT.out] at this
              exact this
            have hoth := Dg.signed_other secret h i amN ac bb bm bc by_ SG PT
            rw [HQ.out] at hoth
            obtain ⟨Y, hY⟩ : ∃ Y, (((Dg.cnt ⟨ac, List.replicate (amN + 1) Q, 1, 0, 1⟩ ab [⟨(amN : Int), ab, ac, ay, i, SG, PT⟩]).yes : Nat) : Int) = Y := ⟨_, rfl⟩
            obtain ⟨X, hX⟩ : ∃ X, (((Dg.cnt ⟨ac, List.replicate (amN + 1) Q, 1, 0, 1⟩ ab [⟨(amN : Int), ab, ac, ay, i, SG, PT⟩]).no : Nat) : Int) = X := ⟨_, rfl⟩
            have hBd : (Dg.cnt ⟨ac, List.replicate (amN + 1) Q, 1, 0, 1⟩ ab [⟨(amN : Int), ab, ac, ay, i, SG, PT⟩]).bad.map Int.ofNat = [] := by rw [hcnt]; rfl
            have hYX : Y + X = 1 := by rw [← hY, ← hX, hcnt]; cases ay <;> rfl
            have hY0 : 0 ≤ Y ∧ Y ≤ 1 := by rw [← hY, hcnt]; cases ay <;> simp
            have hYa : (Y == 1) = ay := by rw [← hY, hcnt]; cases ay <;> rfl
            have hYn : (Y + X != 1) = false := by rw [hYX]; rfl
            have haa : (ay != ay) = false := by cases ay <;> rfl
            obtain ⟨Y2, hY2⟩ : ∃ Y, (((Dg.cnt ⟨ac, List.replicate (amN + 1) Q, 1, 0, 1⟩ bb [⟨bm, bb, bc, by_, i, SG, PT⟩]).yes : Nat) : Int) = Y := ⟨_, rfl⟩
            obtain ⟨X2, hX2⟩ : ∃ X, (((Dg.cnt ⟨ac, List.replicate (amN + 1) Q, 1, 0, 1⟩ bb [⟨bm, bb, bc, by_, i, SG, PT⟩]).no : Nat) : Int) = X := ⟨_, rfl⟩
            obtain ⟨Bd2, hBd2⟩ : ∃ Bd, (Dg.cnt ⟨ac, List.replicate (amN + 1) Q, 1, 0, 1⟩ bb [⟨bm, bb, bc, by_, i, SG, PT⟩]).bad.map Int.ofNat = Bd := ⟨_, rfl⟩
            have hs2 := cnt_sum ⟨ac, List.replicate (amN + 1) Q, 1, 0, 1⟩ bb [⟨bm, bb, bc, by_, i, SG, PT⟩]
            rw [List.length_singleton] at hs2
            have hYX2 : 0 ≤ Y2 ∧ 0 ≤ X2 ∧ Y2 + X2 ≤ 1 := by rw [← hY2, ← hX2]; omega
            have hver : 0 < Y2 + X2 → verifyB Q (Dg.msgB bm bb bc by_) i SG PT = true := fun hp => hoth (show 0 < (Dg.cnt ⟨ac, List.replicate (amN + 1) Q, 1, 0, 1⟩ bb [⟨bm, bb, bc, by_, i, SG, PT⟩]).yes + (Dg.cnt ⟨ac, List.replicate (amN + 1) Q, 1, 0, 1⟩ bb [⟨bm, bb, bc, by_, i, SG, PT⟩]).no from by rw [← hY2, ← hX2] at hp; omega)
            obtain ⟨M2, hM2⟩ : ∃ M, Dg.msgB bm bb bc by_ = M := ⟨_, rfl⟩
            have hM2z : M2.size = 16 := by rw [← hM2]; exact Dg.listB_size _
            rw [hM2] at hver
            have HY := hide hY; have HX := hide hX; have HBd := hide hBd; have HY2 := hide hY2; have HX2 := hide hX2; have HBd2 := hide hBd2; have HM2 := hide hM2; have HV := hide hver; have HKZ := hide hKz; have HVA := hide hva; have HVB := hide hvb; have HSGz := hide hSG; have HPTz := hide hPT
            clear hY hX hBd hcnt hoth hY2 hX2 hBd2 hs2 hver hM2 hKz hva hvb hSG hPT
            obtain ⟨kA2, kc3, hke, _, hKS⟩ := OwnL.strsM hH.own
            rw [List.length_replicate] at hke
            injection hke with hk1 _ hk2
            subst hk1 hk2
            obtain ⟨r0, r1, r2, r3, r4⟩ := cells5 (hH.row (List.mem_cons_of_mem _ (List.mem_cons_self ..)))
            obtain ⟨s0, s1, s2⟩ := cells3 (hH.row (List.mem_cons_of_mem _ (List.mem_cons_of_mem _ (List.mem_cons_self ..))))
            obtain ⟨b0, b1, b2, b3, b4, b5, b6⟩ := cells7 (hH.row (List.mem_cons_of_mem _ (List.mem_cons_of_mem _ (List.mem_cons_of_mem _ (List.mem_cons_self ..)))))
            obtain ⟨a0, a1, a2, a3, a4, a5, a6⟩ := cells7 (hH.row (List.mem_cons_of_mem _ (List.mem_cons_of_mem _ (List.mem_cons_of_mem _ (List.mem_cons_of_mem _ (List.mem_cons_self ..))))))
            go_wp2_with fail
            have hVl := Vts.lit w5 [⟨⟨(amN : Int), ab, ac, ay, i, SG, PT⟩, sA, sB, sc, sd⟩] #[.int .i64 (amN : Int), .string ab, .int .i64 ac, .bool ay, .int .i64 (i : Int), .slice sA 18 sc, .slice sB h sd] 33 (by simp only [List.flatMap_cons, List.flatMap_nil, List.append_nil, VtC.cells]; rw [hSl.out, hTl.out]) (fun x hx => by obtain rfl := List.mem_singleton.1 hx; exact hI)
            have hx := Below.news (Below.refl w5.heap.size w5) (.cells #[.int .i64 (amN : Int), .string ab, .int .i64 ac, .bool ay, .int .i64 (i : Int), .slice sA 18 sc, .slice sB h sd] 33)
            refine (counted_of ac 1 0 1 kA (amN + 1) kc2 (List.replicate (amN + 1) Q) ab _ 1 1 [⟨(amN : Int), ab, ac, ay, i, SG, PT⟩] _ (hH.env.next hx) List.length_replicate (by omega) HKZ.out (keepS hKS hx) rfl (by decide) (fun x hx => by obtain rfl := List.mem_singleton.1 hx; exact HVA.out) hVl Y X [] HY.out HX.out HBd.out 0 rfl).mono ?_
            rintro r w6 ⟨Ab, cb, rfl, _, hb6⟩
            replace hH := hH.below hx
            replace hI := hI.keep hx
            replace hb := bnext hb hx
            clear hx
            replace hH := hH.below hb6
            replace hI := hI.keep hb6
            replace hb := bnext hb hb6
            clear hb6
            clear hKS hVl
            clear r0 r1 r2 r3 r4 s0 s1 s2 b0 b1 b2 b3 b4 b5 b6 a0 a1 a2 a3 a4 a5 a6
            obtain ⟨kA2, kc3, hke, _, hKS⟩ := OwnL.strsM hH.own
            rw [List.length_replicate] at hke
            injection hke with hk1 _ hk2
            subst hk1 hk2
            obtain ⟨r0, r1, r2, r3, r4⟩ := cells5 (hH.row (List.mem_cons_of_mem _ (List.mem_cons_self ..)))
            obtain ⟨s0, s1, s2⟩ := cells3 (hH.row (List.mem_cons_of_mem _ (List.mem_cons_of_mem _ (List.mem_cons_self ..))))
            obtain ⟨b0, b1, b2, b3, b4, b5, b6⟩ := cells7 (hH.row (List.mem_cons_of_mem _ (List.mem_cons_of_mem _ (List.mem_cons_of_mem _ (List.mem_cons_self ..)))))
            obtain ⟨a0, a1, a2, a3, a4, a5, a6⟩ := cells7 (hH.row (List.mem_cons_of_mem _ (List.mem_cons_of_mem _ (List.mem_cons_of_mem _ (List.mem_cons_of_mem _ (List.mem_cons_self ..))))))
            go_wp2_with fail
            have hVl := Vts.lit w6 [⟨⟨bm, bb, bc, by_, i, SG, PT⟩, sA, sB, sc, sd⟩] #[.int .i64 bm, .string bb, .int .i64 bc, .bool by_, .int .i64 (i : Int), .slice sA 18 sc, .slice sB h sd] 33 (by simp only [List.flatMap_cons, List.flatMap_nil, List.append_nil, VtC.cells]; rw [hSl.out, hTl.out]) (fun x hx => by obtain rfl := List.mem_singleton.1 hx; exact hI)
            have hx := Below.news (Below.refl w6.heap.size w6) (.cells #[.int .i64 bm, .string bb, .int .i64 bc, .bool by_, .int .i64 (i : Int), .slice sA 18 sc, .slice sB h sd] 33)
            refine (counted_of ac 1 0 1 kA (amN + 1) kc2 (List.replicate (amN + 1) Q) bb _ 1 1 [⟨bm, bb, bc, by_, i, SG, PT⟩] _ (hH.env.next hx) List.length_replicate (by omega) HKZ.out (keepS hKS hx) rfl (by decide) (fun x hx => by obtain rfl := List.mem_singleton.1 hx; exact HVB.out) hVl Y2 X2 Bd2 HY2.out HX2.out HBd2.out _ rfl).mono ?_
            rintro r w7 ⟨Ac, cd, rfl, _, hb7⟩
            replace hH := hH.below hx
            replace hI := hI.keep hx
            replace hb := bnext hb hx
            clear hx
            replace hH := hH.below hb7
            replace hI := hI.keep hb7
            replace hb := bnext hb hb7
            clear hb7
            clear hKS hVl
            clear r0 r1 r2 r3 r4 s0 s1 s2 b0 b1 b2 b3 b4 b5 b6 a0 a1 a2 a3 a4 a5 a6
            go_upto_region 19 with (fail)
            go_cut [158] from 147 to 158 (fun v wx => v = .bool false ∧ Below w7.heap.size w7 wx)
            case first =>
              have hwr : IntKind.i64.wrap (Y2 + X2) = Y2 + X2 := IntWalk.i64_in _ (by omega)
              have hwr2 : wrap64 (Y2 + X2) = Y2 + X2 := IntWalk.wrap64_in _ (by omega)
              by_cases hpos : 0 < Y2 + X2
              · have d1 : decide (0 < Y2 + X2) = true := dec_t hpos
                have hmx : Tryd.prog.follows .mixedOrders = true := by kernel_rfl
                have hHeld : (QS w.heap.size [sR (.slice kA (amN + 1) kc2) (List.replicate (amN + 1) Q), (.slice (some ⟨gr, 0, none⟩) 5 5, 24, [.int .i64 ac, (.slice kA (amN + 1) kc2), .int .i64 1, .int .i64 0, .int .i64 1]), (.slice (some ⟨gs, 0, none⟩) 3 3, 31, [.int .i64 (i : Int), .slice sA 18 sc, .slice sB h sd]), (.slice (some ⟨g1, 0, none⟩) 7 7, 33, [.int .i64 bm, .string bb, .int .i64 bc, .bool by_, .int .i64 (i : Int), .slice sA 18 sc, .slice sB h sd]), (.slice (some ⟨w.heap.size, 0, none⟩) 7 7, 33, [.int .i64 (amN : Int), .string ab, .int .i64 ac, .bool ay, .int .i64 (i : Int), .slice sA 18 sc, .slice sB h sd])]) w7.drew := hH.below (Below.refl _ _).drew
                have hId := hI.keep (Below.refl w7.heap.size w7).drew
                have hbz : Below w7.heap.size w7 w7.drew := (Below.refl _ _).drew
                refine wp_region_noPanic ?_
                refine wp_region_L (QS w.heap.size [sR (.slice kA (amN + 1) kc2) (List.replicate (amN + 1) Q), (.slice (some ⟨gr, 0, none⟩) 5 5, 24, [.int .i64 ac, (.slice kA (amN + 1) kc2), .int .i64 1, .int .i64 0, .int .i64 1]), (.slice (some ⟨gs, 0, none⟩) 3 3, 31, [.int .i64 (i : Int), .slice sA 18 sc, .slice sB h sd]), (.slice (some ⟨g1, 0, none⟩) 7 7, 33, [.int .i64 bm, .string bb, .int .i64 bc, .bool by_, .int .i64 (i : Int), .slice sA 18 sc, .slice sB h sd]), (.slice (some ⟨w.heap.size, 0, none⟩) 7 7, 33, [.int .i64 (amN : Int), .string ab, .int .i64 ac, .bool ay, .int .i64 (i : Int), .slice sA 18 sc, .slice sB h sd])]) 12 hmx ?_
                generalize w7.drew = u0 at *
                refine wpAnyL_take (i := 0) (f0 := 40) (v := ?_) rfl (by decide +kernel) (by decide +kernel) (by decide +kernel) (by decide +kernel) (by decide +kernel) (fun _ _ _ h => h) (Or.inl ⟨by rfl, ?_⟩) hHeld ?_
                rotate_left
                · intro wS hS; go_simp; (try with_reducible rfl)
                simp only [Act.put, List.getElem_toArray, List.getElem_cons_zero, List.setIfInBounds_toArray, List.set_cons_succ, List.set_cons_zero]
                refine wpAnyL_take (i := 1) (f0 := 40) (v := ?_) rfl (by decide +kernel) (by decide +kernel) (by decide +kernel) (by decide +kernel) (by decide +kernel) (fun _ _ _ h => h) (Or.inl ⟨by rfl, ?_⟩) hHeld ?_
                rotate_left
                · intro wS hS; go_simp; (try with_reducible rfl)
                simp only [Act.put, List.getElem_toArray, List.getElem_cons_succ, List.getElem_cons_zero, List.setIfInBounds_toArray, List.set_cons_succ, List.set_cons_zero]
                refine wpAnyL_take (i := 2) (f0 := 40) (v := ?_) rfl (by decide +kernel) (by decide +kernel) (by decide +kernel) (by decide +kernel) (by decide +kernel) (fun _ _ _ h => h) (Or.inl ⟨by rfl, ?_⟩) hHeld ?_
                rotate_left
                · intro wS hS; go_simp; (try with_reducible rfl)
                simp only [Act.put, List.getElem_toArray, List.getElem_cons_succ, List.getElem_cons_zero, List.setIfInBounds_toArray, List.set_cons_succ, List.set_cons_zero]
                refine wpAnyL_take (i := 3) (f0 := 40) (v := ?_) rfl (by decide +kernel) (by decide +kernel) (by decide +kernel) (by decide +kernel) (by decide +kernel) (fun _ _ _ h => h) (Or.inl ⟨by rfl, ?_⟩) hHeld ?_
                rotate_left
                · intro wS hS; go_simp; (try with_reducible rfl)
                simp only [Act.put, List.getElem_toArray, List.getElem_cons_succ, List.getElem_cons_zero, List.setIfInBounds_toArray, List.set_cons_succ, List.set_cons_zero]
                refine wpAnyL_take (i := 4) (f0 := 40) (v := ?_) rfl (by decide +kernel) (by decide +kernel) (by decide +kernel) (by decide +kernel) (by decide +kernel) (fun _ _ _ h => h) (Or.inl ⟨by rfl, ?_⟩) hHeld ?_
                rotate_left
                · intro wS hS; go_simp; (try with_reducible rfl)
                simp only [Act.put, List.getElem_toArray, List.getElem_cons_succ, List.getElem_cons_zero, List.setIfInBounds_toArray, List.set_cons_succ, List.set_cons_zero]
                refine wpAnyL_take (i := 5) (f0 := 40) (v := ?_) rfl (by decide +kernel) (by decide +kernel) (by decide +kernel) (by decide +kernel) (by decide +kernel) (fun _ _ _ h => h) (Or.inl ⟨by rfl, ?_⟩) hHeld ?_
                rotate_left
                · intro wS hS; go_simp; (try with_reducible rfl)
                simp only [Act.put, List.getElem_toArray, List.getElem_cons_succ, List.getElem_cons_zero, List.setIfInBounds_toArray, List.set_cons_succ, List.set_cons_zero]
                refine wpAnyL_take (i := 6) (f0 := 40) (v := ?_) rfl (by decide +kernel) (by decide +kernel) (by decide +kernel) (by decide +kernel) (by decide +kernel) (fun _ _ _ h => h) (Or.inl ⟨by rfl, ?_⟩) hHeld ?_
                rotate_left
                · intro wS hS; obtain ⟨b0, b1, b2, b3, b4, b5, b6⟩ := cells7 (hS.row (List.mem_cons_of_mem _ (List.mem_cons_of_mem _ (List.mem_cons_of_mem _ (List.mem_cons_self ..))))); go_simp; (try with_reducible rfl)
                simp only [Act.put, List.getElem_toArray, List.getElem_cons_succ, List.getElem_cons_zero, List.setIfInBounds_toArray, List.set_cons_succ, List.set_cons_zero]
                refine wpAnyL_take (i := 8) (f0 := 40) (v := ?_) rfl (by decide +kernel) (by decide +kernel) (by decide +kernel) (by decide +kernel) (by decide +kernel) (fun _ _ _ h => h) (Or.inl ⟨by rfl, ?_⟩) hHeld ?_
                rotate_left
                · intro wS hS; obtain ⟨s0, s1, s2⟩ := cells3 (hS.row (List.mem_cons_of_mem _ (List.mem_cons_of_mem _ (List.mem_cons_self ..)))); go_simp; (try with_reducible rfl)
                simp only [Act.put, List.getElem_toArray, List.getElem_cons_succ, List.getElem_cons_zero, List.setIfInBounds_toArray, List.set_cons_succ, List.set_cons_zero]
                refine wpAnyL_one (i := 7) (by decide +kernel) (by rfl) (fun K0 hK => ?_)
                rw [if_pos (by rfl)]
                go_simp
                refine (vmsg_any bm bb bc by_ _ _ _ HB.out.2.2.2.2.1 HB.out.2.2.2.2.2.1 HB.out.2.2.2.2.2.2.1 HB.out.2.2.2.2.2.2.2 (by omega) M2 HM2.out _ hHeld.env).mono ?_
                rintro r u1 ⟨rfl, hbn⟩
                replace hHeld := hHeld.below hbn
                replace hId := hId.keep hbn
                replace hbz := hbz.trans (hbn.mono hbz.size)
                refine hK.out _ _ (Or.inr hHeld) ?_
                clear hK K0
                try simp only [Act.put, List.getElem_toArray, List.getElem_cons_succ, List.getElem_cons_zero, List.setIfInBounds_toArray, List.set_cons_succ, List.set_cons_zero]
                refine wpAnyL_one (i := 9) (by decide +kernel) (by rfl) (fun K0 hK => ?_)
                rw [if_pos (by rfl)]
                go_simp
                refine (verify_of Q M2 i sA sB 18 h sc sd SG PT _ hHeld.env (by rw [hM2z]; decide) hSl.out HSGz.out hId.1 hTl.out HPTz.out hId.2.2.1 hsc true (HV.out hpos)).mono ?_
                rintro r u2 ⟨rfl, hbn⟩
                replace hHeld := hHeld.below hbn
                replace hId := hId.keep hbn
                replace hbz := hbz.trans (hbn.mono hbz.size)
                refine hK.out _ _ (Or.inr hHeld) ?_
                clear hK K0
                try simp only [Act.put, List.getElem_toArray, List.getElem_cons_succ, List.getElem_cons_zero, List.setIfInBounds_toArray, List.set_cons_succ, List.set_cons_zero]
                refine wpAnyL_take (i := 10) (f0 := 40) (v := ?_) rfl (by decide +kernel) (by decide +kernel) (by decide +kernel) (by decide +kernel) (by decide +kernel) (fun _ _ _ h => h) (Or.inl ⟨by rfl, ?_⟩) hHeld ?_
                rotate_left
                · intro wS hS; go_simp; (try with_reducible rfl)
                simp only [Act.put, List.getElem_toArray, List.getElem_cons_succ, List.getElem_cons_zero, List.setIfInBounds_toArray, List.set_cons_succ, List.set_cons_zero]
                refine wpAnyL_take (i := 11) (f0 := 40) (v := ?_) rfl (by decide +kernel) (by decide +kernel) (by decide +kernel) (by decide +kernel) (by decide +kernel) (fun _ _ _ h => h) (Or.inl ⟨by rfl, ?_⟩) hHeld ?_
                rotate_left
                · intro wS hS; go_simp; (try with_reducible rfl)
                simp only [Act.put, List.getElem_toArray, List.getElem_cons_succ, List.getElem_cons_zero, List.setIfInBounds_toArray, List.set_cons_succ, List.set_cons_zero]
                refine wpAnyL_done (by decide +kernel) ?_ _
                refine NoPanic.normal ?_
                go_wp2_with fail
                go_meet
                exact ⟨rfl, hbz⟩
              · have d1 : decide (0 < Y2 + X2) = false := dec_f hpos
                go_quiet (fail)
                go_wp2_with fail
                go_meet
                exact ⟨rfl, below_drewN (Below.refl _ _) _⟩
            case rest =>
              obtain ⟨rfl, hb8⟩ := hcut
              replace hH := hH.below hb8
              replace hI := hI.keep hb8
              replace hb := bnext hb hb8
              clear hb8
              generalize wc = w8 at *
              obtain ⟨JA, hJA⟩ : ∃ J, Dg.B (Dg.joinedL (Dg.msgL (amN : Int) ab ac ay)) = J := ⟨_, rfl⟩
              obtain ⟨JB, hJB⟩ : ∃ J, Dg.B (Dg.joinedL (Dg.msgL bm bb bc by_)) = J := ⟨_, rfl⟩
              have hjd : (ab ≠ bb ∨ ac ≠ bc ∨ (amN : Int) ≠ bm ∨ ay ≠ by_) → JA ≠ JB := fun h => by
                rw [← hJA, ← hJB]
                exact Dg.msg_differ c4 c5 (by omega) (by omega) HB.out.2.2.1 HB.out.2.2.2.1 HB.out.2.2.2.2.1 HB.out.2.2.2.2.2.1 HB.out.2.2.2.2.2.2.1 HB.out.2.2.2.2.2.2.2 h
              have hsa : Dg.sumB JA = M := by rw [← hJA, ← HMM.out]; exact (Dg.msgB_eq _ _ _ _).symm
              have hsb : Dg.sumB JB = M2 := by rw [← hJB, ← HM2.out]; exact (Dg.msgB_eq _ _ _ _).symm
              have hja := msgL_joined2 (amN : Int) ab ac ay c4 (by omega) (by omega) HB.out.2.2.1 HB.out.2.2.2.1
              have hjb := msgL_joined2 bm bb bc by_ c5 HB.out.2.2.2.2.1 HB.out.2.2.2.2.2.1 HB.out.2.2.2.2.2.2.1 HB.out.2.2.2.2.2.2.2
              have hza := Dg.msgL_sizes (amN : Int) ab ac ay c4 (by omega) (by omega) HB.out.2.2.1 HB.out.2.2.2.1
              have hzb := Dg.msgL_sizes bm bb bc by_ c5 HB.out.2.2.2.2.1 HB.out.2.2.2.2.2.1 HB.out.2.2.2.2.2.2.1 HB.out.2.2.2.2.2.2.2
              have hJAz : JA.size ≤ 9223372036854775807 := by rw [← hJA, Dg.size_B]; omega
              have hJBz : JB.size ≤ 9223372036854775807 := by rw [← hJB, Dg.size_B]; omega
              have HJA := hide hJA; have HJB := hide hJB; have HJD := hide hjd; have HSA := hide hsa; have HSB := hide hsb; have HJa := hide hja; have HJb := hide hjb; have HZa := hide hza; have HZb := hide hzb
              clear hJA hJB hjd hsa hsb hja hjb hza hzb
              go_upto_region 21 with (fail)
              go_cut [23, 24] from 159 to 164 (fun v1 v2 wx => v1 = .string JA ∧ v2 = .string JB ∧ Below w8.heap.size w8 wx)
              case first =>
                have hmx : Tryd.prog.follows .mixedOrders = true := by kernel_rfl
                have hHeld : (QS w.heap.size [sR (.slice kA (amN + 1) kc2) (List.replicate (amN + 1) Q), (.slice (some ⟨gr, 0, none⟩) 5 5, 24, [.int .i64 ac, (.slice kA (amN + 1) kc2), .int .i64 1, .int .i64 0, .int .i64 1]), (.slice (some ⟨gs, 0, none⟩) 3 3, 31, [.int .i64 (i : Int), .slice sA 18 sc, .slice sB h sd]), (.slice (some ⟨g1, 0, none⟩) 7 7, 33, [.int .i64 bm, .string bb, .int .i64 bc, .bool by_, .int .i64 (i : Int), .slice sA 18 sc, .slice sB h sd]), (.slice (some ⟨w.heap.size, 0, none⟩) 7 7, 33, [.int .i64 (amN : Int), .string ab, .int .i64 ac, .bool ay, .int .i64 (i : Int), .slice sA 18 sc, .slice sB h sd])]) w8.drew := hH.below (Below.refl _ _).drew
                have hId := hI.keep (Below.refl w8.heap.size w8).drew
                have hbz : Below w8.heap.size w8 w8.drew := (Below.refl _ _).drew
                refine wp_region_noPanic ?_
                refine wp_region_L (QS w.heap.size [sR (.slice kA (amN + 1) kc2) (List.replicate (amN + 1) Q), (.slice (some ⟨gr, 0, none⟩) 5 5, 24, [.int .i64 ac, (.slice kA (amN + 1) kc2), .int .i64 1, .int .i64 0, .int .i64 1]), (.slice (some ⟨gs, 0, none⟩) 3 3, 31, [.int .i64 (i : Int), .slice sA 18 sc, .slice sB h sd]), (.slice (some ⟨g1, 0, none⟩) 7 7, 33, [.int .i64 bm, .string bb, .int .i64 bc, .bool by_, .int .i64 (i : Int), .slice sA 18 sc, .slice sB h sd]), (.slice (some ⟨w.heap.size, 0, none⟩) 7 7, 33, [.int .i64 (amN : Int), .string ab, .int .i64 ac, .bool ay, .int .i64 (i : Int), .slice sA 18 sc, .slice sB h sd])]) 8 hmx ?_
                generalize w8.drew = u0 at *
                refine wpAnyL_take (i := 0) (f0 := 40) (v := ?_) rfl (by decide +kernel) (by decide +kernel) (by decide +kernel) (by decide +kernel) (by decide +kernel) (fun _ _ _ h => h) (Or.inl ⟨by rfl, ?_⟩) hHeld ?_
                rotate_left
                · intro wS hS; obtain ⟨a0, a1, a2, a3, a4, a5, a6⟩ := cells7 (hS.row (List.mem_cons_of_mem _ (List.mem_cons_of_mem _ (List.mem_cons_of_mem _ (List.mem_cons_of_mem _ (List.mem_cons_self ..)))))); go_simp; (try with_reducible rfl)
                simp only [Act.put, List.getElem_toArray, List.getElem_cons_zero, List.setIfInBounds_toArray, List.set_cons_succ, List.set_cons_zero]
                refine wpAnyL_take (i := 3) (f0 := 40) (v := ?_) rfl (by decide +kernel) (by decide +kernel) (by decide +kernel) (by decide +kernel) (by decide +kernel) (fun _ _ _ h => h) (Or.inl ⟨by rfl, ?_⟩) hHeld ?_
                rotate_left
                · intro wS hS; obtain ⟨b0, b1, b2, b3, b4, b5, b6⟩ := cells7 (hS.row (List.mem_cons_of_mem _ (List.mem_cons_of_mem _ (List.mem_cons_of_mem _ (List.mem_cons_self ..))))); go_simp; (try with_reducible rfl)
                simp only [Act.put, List.getElem_toArray, List.getElem_cons_succ, List.getElem_cons_zero, List.setIfInBounds_toArray, List.set_cons_succ, List.set_cons_zero]
                refine wpAnyL_one (i := 1) (by decide +kernel) (by rfl) (fun K0 hK => ?_)
                rw [if_pos (by rfl)]
                go_simp
                refine (rfields_of (amN : Int) ab ac ay i sA sB 18 sc h sd (by omega) (by omega) HB.out.2.2.1 HB.out.2.2.2.1 _).mono ?_
                rintro r u1 ⟨A3, d3, rfl, hF, _, hbn⟩
                replace hHeld := hHeld.below hbn
                replace hId := hId.keep hbn
                replace hbz := hbz.trans (hbn.mono hbz.size)
                refine hK.out _ _ (Or.inr hHeld) ?_
                clear hK K0
                try simp only [Act.put, List.getElem_toArray, List.getElem_cons_succ, List.getElem_cons_zero, List.setIfInBounds_toArray, List.set_cons_succ, List.set_cons_zero]
                refine wpAnyL_one (i := 2) (by decide +kernel) (by rfl) (fun K0 hK => ?_)
                rw [if_pos (by rfl)]
                go_simp
                refine (joined_of A3 d3 5 (Dg.msgL (amN : Int) ab ac ay) rfl JA HJA.out _ (by show 5 ≤ 1048576; decide) (Nat.le_trans HJa.out (by decide)) (fun s hs => Nat.le_trans (HZa.out s hs) (by decide)) hF).mono ?_
                rintro r u2 ⟨rfl, hbn⟩
                replace hHeld := hHeld.below hbn
                replace hId := hId.keep hbn
                replace hbz := hbz.trans (hbn.mono hbz.size)
                refine hK.out _ _ (Or.inr hHeld) ?_
                clear hK K0
                try simp only [Act.put, List.getElem_toArray, List.getElem_cons_succ, List.getElem_cons_zero, List.setIfInBounds_toArray, List.set_cons_succ, List.set_cons_zero]
                refine wpAnyL_one (i := 4) (by decide +kernel) (by rfl) (fun K0 hK => ?_)
                rw [if_pos (by rfl)]
                go_simp
                refine (rfields_of bm bb bc by_ i sA sB 18 sc h sd HB.out.2.2.2.2.1 HB.out.2.2.2.2.2.1 HB.out.2.2.2.2.2.2.1 HB.out.2.2.2.2.2.2.2 _).mono ?_
                rintro r u3 ⟨A4, d4, rfl, hF2, _, hbn⟩
                replace hHeld := hHeld.below hbn
                replace hId := hId.keep hbn
                replace hbz := hbz.trans (hbn.mono hbz.size)
                refine hK.out _ _ (Or.inr hHeld) ?_
                clear hK K0
                try simp only [Act.put, List.getElem_toArray, List.getElem_cons_succ, List.getElem_cons_zero, List.setIfInBounds_toArray, List.set_cons_succ, List.set_cons_zero]
                refine wpAnyL_one (i := 5) (by decide +kernel) (by rfl) (fun K0 hK => ?_)
                rw [if_pos (by rfl)]
                go_simp
                refine (joined_of A4 d4 5 (Dg.msgL bm bb bc by_) rfl JB HJB.out _ (by show 5 ≤ 1048576; decide) (Nat.le_trans HJb.out (by decide)) (fun s hs => Nat.le_trans (HZb.out s hs) (by decide)) hF2).mono ?_
                rintro r u4 ⟨rfl, hbn⟩
                replace hHeld := hHeld.below hbn
                replace hId := hId.keep hbn
                replace hbz := hbz.trans (hbn.mono hbz.size)
                refine hK.out _ _ (Or.inr hHeld) ?_
                clear hK K0
                try simp only [Act.put, List.getElem_toArray, List.getElem_cons_succ, List.getElem_cons_zero, List.setIfInBounds_toArray, List.set_cons_succ, List.set_cons_zero]
                refine wpAnyL_take (i := 6) (f0 := 40) (v := ?_) rfl (by decide +kernel) (by decide +kernel) (by decide +kernel) (by decide +kernel) (by decide +kernel) (fun _ _ _ h => h) (Or.inl ⟨by rfl, ?_⟩) hHeld ?_
                rotate_left
                · intro wS hS; go_simp; (try with_reducible rfl)
                simp only [Act.put, List.getElem_toArray, List.getElem_cons_succ, List.getElem_cons_zero, List.setIfInBounds_toArray, List.set_cons_succ, List.set_cons_zero]
                refine wpAnyL_take (i := 7) (f0 := 40) (v := ?_) rfl (by decide +kernel) (by decide +kernel) (by decide +kernel) (by decide +kernel) (by decide +kernel) (fun _ _ _ h => h) (Or.inl ⟨by rfl, ?_⟩) hHeld ?_
                rotate_left
                · intro wS hS; go_simp; (try with_reducible rfl)
                simp only [Act.put, List.getElem_toArray, List.getElem_cons_succ, List.getElem_cons_zero, List.setIfInBounds_toArray, List.set_cons_succ, List.set_cons_zero]
                refine wpAnyL_done (by decide +kernel) ?_ _
                refine NoPanic.normal ?_
                go_wp2_with fail
                go_meet
                exact ⟨rfl, rfl, hbz⟩
              case rest =>
                obtain ⟨rfl, rfl, hb9⟩ := hcut
                replace hH := hH.below hb9
                replace hI := hI.keep hb9
                replace hb := bnext hb hb9
                clear hb9
                generalize wc = w9 at *
                obtain ⟨r0, r1, r2, r3, r4⟩ := cells5 (hH.row (List.mem_cons_of_mem _ (List.mem_cons_self ..)))
                obtain ⟨s0, s1, s2⟩ := cells3 (hH.row (List.mem_cons_of_mem _ (List.mem_cons_of_mem _ (List.mem_cons_self ..))))
                obtain ⟨b0, b1, b2, b3, b4, b5, b6⟩ := cells7 (hH.row (List.mem_cons_of_mem _ (List.mem_cons_of_mem _ (List.mem_cons_of_mem _ (List.mem_cons_self ..)))))
                obtain ⟨a0, a1, a2, a3, a4, a5, a6⟩ := cells7 (hH.row (List.mem_cons_of_mem _ (List.mem_cons_of_mem _ (List.mem_cons_of_mem _ (List.mem_cons_of_mem _ (List.mem_cons_self ..))))))
                go_upto_region 22 with (fail)
                go_cut [25] from 165 to 190 (fun v wx => ∃ D : Bool, v = .bool D ∧ (D = true → ab ≠ bb ∨ ac ≠ bc ∨ (amN : Int) ≠ bm ∨ ay ≠ by_) ∧ wx = w9)
                case first =>
                  by_cases q1 : ab = bb
                  rotate_left
                  · have e1 : (ab.toList == bb.toList) = false := by rw [str_ne]; exact decide_eq_false q1
                    go_wp2_with fail
                    go_meet
                    exact ⟨true, rfl, fun _ => Or.inl q1, rfl⟩
                  have e1 : (ab.toList == bb.toList) = true := by rw [str_ne]; exact decide_eq_true q1
                  clear q1
                  by_cases q2 : ac = bc
                  rotate_left
                  · have e2 : (ac != bc) = true := bne_iff_ne.2 q2
                    go_wp2_with fail
                    go_meet
                    exact ⟨true, rfl, fun _ => Or.inr (Or.inl q2), rfl⟩
                  have e2 : (ac != bc) = false := by rw [q2]; exact bne_self_eq_false _
                  clear q2
                  by_cases q3 : (amN : Int) = bm
                  rotate_left
                  · have e3 : ((amN : Int) != bm) = true := bne_iff_ne.2 q3
                    go_wp2_with fail
                    go_meet
                    exact ⟨true, rfl, fun _ => Or.inr (Or.inr (Or.inl q3)), rfl⟩
                  have e3 : ((amN : Int) != bm) = false := by rw [q3]; exact bne_self_eq_false _
                  clear q3
                  by_cases q4 : ay = by_
                  · have e4 : (ay != by_) = false := by rw [q4]; exact bne_self_eq_false _
                    have e5 : (ay == by_) = true := beq_iff_eq.2 q4
                    clear q4
                    go_wp2_with fail
                    go_meet
                    exact ⟨false, rfl, fun h => (by cases h), rfl⟩
                  · have e4 : (ay != by_) = true := bne_iff_ne.2 q4
                    have e5 : (ay == by_) = false := beq_eq_false_iff_ne.2 q4
                    go_wp2_with fail
                    go_meet
                    exact ⟨true, rfl, fun _ => Or.inr (Or.inr (Or.inr q4)), rfl⟩
                case rest =>
                  obtain ⟨D, rfl, hD, hwc⟩ := hcut
                  subst hwc
                  clear r0 r1 r2 r3 r4 s0 s1 s2 b0 b1 b2 b3 b4 b5 b6 a0 a1 a2 a3 a4 a5 a6
                  have HD := hide hD; clear hD
                  go_upto_region 23 with (fail)
                  cases D with
                  | false =>
                    clear HD
                    go_quiet (fail)
                    go_wp2
                    go_ret
                    exact ⟨rfl, bnext hb (below_drewN (Below.refl _ _) _)⟩
                  | true =>
                    have hjn := HJD.out (HD.out rfl)
                    by_cases hMM : M = M2
                    · subst hMM
                      have e1 : (M.toList == M.toList) = true := beq_self_eq_true _
                      have e2 : (JA.toList == JB.toList) = false := by rw [str_ne]; exact decide_eq_false hjn
                      clear hjn HD
                      have hmx : Tryd.prog.follows .mixedOrders = true := by kernel_rfl
                      have hHeld : (QS w.heap.size [sR (.slice kA (amN + 1) kc2) (List.replicate (amN + 1) Q), (.slice (some ⟨gr, 0, none⟩) 5 5, 24, [.int .i64 ac, (.slice kA (amN + 1) kc2), .int .i64 1, .int .i64 0, .int .i64 1]), (.slice (some ⟨gs, 0, none⟩) 3 3, 31, [.int .i64 (i : Int), .slice sA 18 sc, .slice sB h sd]), (.slice (some ⟨g1, 0, none⟩) 7 7, 33, [.int .i64 bm, .string bb, .int .i64 bc, .bool by_, .int .i64 (i : Int), .slice sA 18 sc, .slice sB h sd]), (.slice (some ⟨w.heap.size, 0, none⟩) 7 7, 33, [.int .i64 (amN : Int), .string ab, .int .i64 ac, .bool ay, .int .i64 (i : Int), .slice sA 18 sc, .slice sB h sd])]) wc.drew := hH.below (Below.refl _ _).drew
                      have hId := hI.keep (Below.refl wc.heap.size wc).drew
                      have hbz : Below wc.heap.size wc wc.drew := (Below.refl _ _).drew
                      refine wp_region_noPanic ?_
                      refine wp_region_L (QS w.heap.size [sR (.slice kA (amN + 1) kc2) (List.replicate (amN + 1) Q), (.slice (some ⟨gr, 0, none⟩) 5 5, 24, [.int .i64 ac, (.slice kA (amN + 1) kc2), .int .i64 1, .int .i64 0, .int .i64 1]), (.slice (some ⟨gs, 0, none⟩) 3 3, 31, [.int .i64 (i : Int), .slice sA 18 sc, .slice sB h sd]), (.slice (some ⟨g1, 0, none⟩) 7 7, 33, [.int .i64 bm, .string bb, .int .i64 bc, .bool by_, .int .i64 (i : Int), .slice sA 18 sc, .slice sB h sd]), (.slice (some ⟨w.heap.size, 0, none⟩) 7 7, 33, [.int .i64 (amN : Int), .string ab, .int .i64 ac, .bool ay, .int .i64 (i : Int), .slice sA 18 sc, .slice sB h sd])]) 25 hmx ?_
                      generalize wc.drew = u0 at *
                      refine wpAnyL_take (i := 0) (f0 := 40) (v := ?_) rfl (by decide +kernel) (by decide +kernel) (by decide +kernel) (by decide +kernel) (by decide +kernel) (fun _ _ _ h => h) (Or.inl ⟨by rfl, ?_⟩) hHeld ?_
                      rotate_left
                      · intro wS hS; go_simp; (try with_reducible rfl)
                      simp only [Act.put, List.getElem_toArray, List.getElem_cons_zero, List.setIfInBounds_toArray, List.set_cons_succ, List.set_cons_zero]
                      refine wpAnyL_take (i := 1) (f0 := 40) (v := ?_) rfl (by decide +kernel) (by decide +kernel) (by decide +kernel) (by decide +kernel) (by decide +kernel) (fun _ _ _ h => h) (Or.inl ⟨by rfl, ?_⟩) hHeld ?_
                      rotate_left
                      · intro wS hS; go_simp; (try with_reducible rfl)
                      simp only [Act.put, List.getElem_toArray, List.getElem_cons_succ, List.getElem_cons_zero, List.setIfInBounds_toArray, List.set_cons_succ, List.set_cons_zero]
                      refine wpAnyL_take (i := 2) (f0 := 40) (v := ?_) rfl (by decide +kernel) (by decide +kernel) (by decide +kernel) (by decide +kernel) (by decide +kernel) (fun _ _ _ h => h) (Or.inl ⟨by rfl, ?_⟩) hHeld ?_
                      rotate_left
                      · intro wS hS; go_simp; (try with_reducible rfl)
                      simp only [Act.put, List.getElem_toArray, List.getElem_cons_succ, List.getElem_cons_zero, List.setIfInBounds_toArray, List.set_cons_succ, List.set_cons_zero]
                      refine wpAnyL_take (i := 3) (f0 := 40) (v := ?_) rfl (by decide +kernel) (by decide +kernel) (by decide +kernel) (by decide +kernel) (by decide +kernel) (fun _ _ _ h => h) (Or.inl ⟨by rfl, ?_⟩) hHeld ?_
                      rotate_left
                      · intro wS hS; go_simp; (try with_reducible rfl)
                      simp only [Act.put, List.getElem_toArray, List.getElem_cons_succ, List.getElem_cons_zero, List.setIfInBounds_toArray, List.set_cons_succ, List.set_cons_zero]
                      refine wpAnyL_take (i := 4) (f0 := 40) (v := ?_) rfl (by decide +kernel) (by decide +kernel) (by decide +kernel) (by decide +kernel) (by decide +kernel) (fun _ _ _ h => h) (Or.inl ⟨by rfl, ?_⟩) hHeld ?_
                      rotate_left
                      · intro wS hS; go_simp; (try with_reducible rfl)
                      simp only [Act.put, List.getElem_toArray, List.getElem_cons_succ, List.getElem_cons_zero, List.setIfInBounds_toArray, List.set_cons_succ, List.set_cons_zero]
                      refine wpAnyL_take (i := 5) (f0 := 40) (v := ?_) rfl (by decide +kernel) (by decide +kernel) (by decide +kernel) (by decide +kernel) (by decide +kernel) (fun _ _ _ h => h) (Or.inl ⟨by rfl, ?_⟩) hHeld ?_
                      rotate_left
                      · intro wS hS; obtain ⟨a0, a1, a2, a3, a4, a5, a6⟩ := cells7 (hS.row (List.mem_cons_of_mem _ (List.mem_cons_of_mem _ (List.mem_cons_of_mem _ (List.mem_cons_of_mem _ (List.mem_cons_self ..)))))); go_simp; (try with_reducible rfl)
                      simp only [Act.put, List.getElem_toArray, List.getElem_cons_succ, List.getElem_cons_zero, List.setIfInBounds_toArray, List.set_cons_succ, List.set_cons_zero]
                      refine wpAnyL_take (i := 7) (f0 := 40) (v := ?_) rfl (by decide +kernel) (by decide +kernel) (by decide +kernel) (by decide +kernel) (by decide +kernel) (fun _ _ _ h => h) (Or.inl ⟨by rfl, ?_⟩) hHeld ?_
                      rotate_left
                      · intro wS hS; obtain ⟨b0, b1, b2, b3, b4, b5, b6⟩ := cells7 (hS.row (List.mem_cons_of_mem _ (List.mem_cons_of_mem _ (List.mem_cons_of_mem _ (List.mem_cons_self ..))))); go_simp; (try with_reducible rfl)
                      simp only [Act.put, List.getElem_toArray, List.getElem_cons_succ, List.getElem_cons_zero, List.setIfInBounds_toArray, List.set_cons_succ, List.set_cons_zero]
                      refine wpAnyL_one (i := 6) (by decide +kernel) (by rfl) (fun K0 hK => ?_)
                      rw [if_pos (by rfl)]
                      go_simp
                      refine (vmsg_any (amN : Int) ab ac ay _ _ _ (by omega) (by omega) HB.out.2.2.1 HB.out.2.2.2.1 (by omega) M HMM.out _ hHeld.env).mono ?_
                      rintro r u1 ⟨rfl, hbn⟩
                      replace hHeld := hHeld.below hbn
                      replace hId := hId.keep hbn
                      replace hbz := hbz.trans (hbn.mono hbz.size)
                      refine hK.out _ _ (Or.inr hHeld) ?_
                      clear hK K0
                      try simp only [Act.put, List.getElem_toArray, List.getElem_cons_succ, List.getElem_cons_zero, List.setIfInBounds_toArray, List.set_cons_succ, List.set_cons_zero]
                      refine wpAnyL_one (i := 8) (by decide +kernel) (by rfl) (fun K0 hK => ?_)
                      rw [if_pos (by rfl)]
                      go_simp
                      refine (vmsg_any bm bb bc by_ _ _ _ HB.out.2.2.2.2.1 HB.out.2.2.2.2.2.1 HB.out.2.2.2.2.2.2.1 HB.out.2.2.2.2.2.2.2 (by omega) M HM2.out _ hHeld.env).mono ?_
                      rintro r u2 ⟨rfl, hbn⟩
                      replace hHeld := hHeld.below hbn
                      replace hId := hId.keep hbn
                      replace hbz := hbz.trans (hbn.mono hbz.size)
                      refine hK.out _ _ (Or.inr hHeld) ?_
                      clear hK K0
                      try simp only [Act.put, List.getElem_toArray, List.getElem_cons_succ, List.getElem_cons_zero, List.setIfInBounds_toArray, List.set_cons_succ, List.set_cons_zero]
                      refine wpAnyL_take (i := 9) (f0 := 40) (v := ?_) rfl (by decide +kernel) (by decide +kernel) (by decide +kernel) (by decide +kernel) (by decide +kernel) (fun _ _ _ h => h) (Or.inl ⟨by rfl, ?_⟩) hHeld ?_
                      rotate_left
                      · intro wS hS; go_simp; (try with_reducible rfl)
                      simp only [Act.put, List.getElem_toArray, List.getElem_cons_succ, List.getElem_cons_zero, List.setIfInBounds_toArray, List.set_cons_succ, List.set_cons_zero]
                      refine wpAnyL_take (i := 10) (f0 := 40) (v := ?_) rfl (by decide +kernel) (by decide +kernel) (by decide +kernel) (by decide +kernel) (by decide +kernel) (fun _ _ _ h => h) (Or.inl ⟨by rfl, ?_⟩) hHeld ?_
                      rotate_left
                      · intro wS hS; go_simp; (try with_reducible rfl)
                      simp only [Act.put, List.getElem_toArray, List.getElem_cons_succ, List.getElem_cons_zero, List.setIfInBounds_toArray, List.set_cons_succ, List.set_cons_zero]
                      refine wpAnyL_take (i := 11) (f0 := 40) (v := ?_) rfl (by decide +kernel) (by decide +kernel) (by decide +kernel) (by decide +kernel) (by decide +kernel) (fun _ _ _ h => h) (Or.inl ⟨by rfl, ?_⟩) hHeld ?_
                      rotate_left
                      · intro wS hS; go_simp; (try with_reducible rfl)
                      simp only [Act.put, List.getElem_toArray, List.getElem_cons_succ, List.getElem_cons_zero, List.setIfInBounds_toArray, List.set_cons_succ, List.set_cons_zero]
                      refine wpAnyL_take (i := 12) (f0 := 40) (v := ?_) rfl (by decide +kernel) (by decide +kernel) (by decide +kernel) (by decide +kernel) (by decide +kernel) (fun _ _ _ h => h) (Or.inl ⟨by rfl, ?_⟩) hHeld ?_
                      rotate_left
                      · intro wS hS; go_simp; (try with_reducible rfl)
                      simp only [Act.put, List.getElem_toArray, List.getElem_cons_succ, List.getElem_cons_zero, List.setIfInBounds_toArray, List.set_cons_succ, List.set_cons_zero]
                      refine wpAnyL_take (i := 13) (f0 := 40) (v := ?_) rfl (by decide +kernel) (by decide +kernel) (by decide +kernel) (by decide +kernel) (by decide +kernel) (fun _ _ _ h => h) (Or.inl ⟨by rfl, ?_⟩) hHeld ?_
                      rotate_left
                      · intro wS hS; go_simp; (try with_reducible rfl)
                      simp only [Act.put, List.getElem_toArray, List.getElem_cons_succ, List.getElem_cons_zero, List.setIfInBounds_toArray, List.set_cons_succ, List.set_cons_zero]
                      refine wpAnyL_take (i := 14) (f0 := 40) (v := ?_) rfl (by decide +kernel) (by decide +kernel) (by decide +kernel) (by decide +kernel) (by decide +kernel) (fun _ _ _ h => h) (Or.inl ⟨by rfl, ?_⟩) hHeld ?_
                      rotate_left
                      · intro wS hS; go_simp; (try with_reducible rfl)
                      simp only [Act.put, List.getElem_toArray, List.getElem_cons_succ, List.getElem_cons_zero, List.setIfInBounds_toArray, List.set_cons_succ, List.set_cons_zero]
                      refine wpAnyL_take (i := 15) (f0 := 40) (v := ?_) rfl (by decide +kernel) (by decide +kernel) (by decide +kernel) (by decide +kernel) (by decide +kernel) (fun _ _ _ h => h) (Or.inl ⟨by rfl, ?_⟩) hHeld ?_
                      rotate_left
                      · intro wS hS; go_simp; (try with_reducible rfl)
                      simp only [Act.put, List.getElem_toArray, List.getElem_cons_succ, List.getElem_cons_zero, List.setIfInBounds_toArray, List.set_cons_succ, List.set_cons_zero]
                      refine wpAnyL_take (i := 16) (f0 := 40) (v := ?_) rfl (by decide +kernel) (by decide +kernel) (by decide +kernel) (by decide +kernel) (by decide +kernel) (fun _ _ _ h => h) (Or.inl ⟨by rfl, ?_⟩) hHeld ?_
                      rotate_left
                      · intro wS hS; go_simp; (try with_reducible rfl)
                      simp only [Act.put, List.getElem_toArray, List.getElem_cons_succ, List.getElem_cons_zero, List.setIfInBounds_toArray, List.set_cons_succ, List.set_cons_zero]
                      refine wpAnyL_take (i := 18) (f0 := 40) (v := ?_) rfl (by decide +kernel) (by decide +kernel) (by decide +kernel) (by decide +kernel) (by decide +kernel) (fun _ _ _ h => h) (Or.inl ⟨by rfl, ?_⟩) hHeld ?_
                      rotate_left
                      · intro wS hS; go_simp; (try with_reducible rfl)
                      simp only [Act.put, List.getElem_toArray, List.getElem_cons_succ, List.getElem_cons_zero, List.setIfInBounds_toArray, List.set_cons_succ, List.set_cons_zero]
                      refine wpAnyL_one (i := 17) (by decide +kernel) (by rfl) (fun K0 hK => ?_)
                      rw [if_pos (by rfl)]
                      go_simp
                      refine (sum_of JA M HSA.out hJAz _).mono ?_
                      rintro r u3 ⟨rfl, hbn⟩
                      replace hHeld := hHeld.below hbn
                      replace hId := hId.keep hbn
                      replace hbz := hbz.trans (hbn.mono hbz.size)
                      refine hK.out _ _ (Or.inr hHeld) ?_
                      clear hK K0
                      try simp only [Act.put, List.getElem_toArray, List.getElem_cons_succ, List.getElem_cons_zero, List.setIfInBounds_toArray, List.set_cons_succ, List.set_cons_zero]
                      refine wpAnyL_one (i := 19) (by decide +kernel) (by rfl) (fun K0 hK => ?_)
                      rw [if_pos (by rfl)]
                      go_simp
                      refine (sum_of JB M HSB.out hJBz _).mono ?_
                      rintro r u4 ⟨rfl, hbn⟩
                      replace hHeld := hHeld.below hbn
                      replace hId := hId.keep hbn
                      replace hbz := hbz.trans (hbn.mono hbz.size)
                      refine hK.out _ _ (Or.inr hHeld) ?_
                      clear hK K0
                      try simp only [Act.put, List.getElem_toArray, List.getElem_cons_succ, List.getElem_cons_zero, List.setIfInBounds_toArray, List.set_cons_succ, List.set_cons_zero]
                      refine wpAnyL_take (i := 20) (f0 := 40) (v := ?_) rfl (by decide +kernel) (by decide +kernel) (by decide +kernel) (by decide +kernel) (by decide +kernel) (fun _ _ _ h => h) (Or.inl ⟨by rfl, ?_⟩) hHeld ?_
                      rotate_left
                      · intro wS hS; go_simp; (try with_reducible rfl)
                      simp only [Act.put, List.getElem_toArray, List.getElem_cons_succ, List.getElem_cons_zero, List.setIfInBounds_toArray, List.set_cons_succ, List.set_cons_zero]
                      refine wpAnyL_take (i := 21) (f0 := 40) (v := ?_) rfl (by decide +kernel) (by decide +kernel) (by decide +kernel) (by decide +kernel) (by decide +kernel) (fun _ _ _ h => h) (Or.inl ⟨by rfl, ?_⟩) hHeld ?_
                      rotate_left
                      · intro wS hS; go_simp; (try with_reducible rfl)
                      simp only [Act.put, List.getElem_toArray, List.getElem_cons_succ, List.getElem_cons_zero, List.setIfInBounds_toArray, List.set_cons_succ, List.set_cons_zero]
                      refine wpAnyL_take (i := 22) (f0 := 40) (v := ?_) rfl (by decide +kernel) (by decide +kernel) (by decide +kernel) (by decide +kernel) (by decide +kernel) (fun _ _ _ h => h) (Or.inl ⟨by rfl, ?_⟩) hHeld ?_
                      rotate_left
                      · intro wS hS; go_simp; (try with_reducible rfl)
                      simp only [Act.put, List.getElem_toArray, List.getElem_cons_succ, List.getElem_cons_zero, List.setIfInBounds_toArray, List.set_cons_succ, List.set_cons_zero]
                      refine wpAnyL_take (i := 23) (f0 := 40) (v := ?_) rfl (by decide +kernel) (by decide +kernel) (by decide +kernel) (by decide +kernel) (by decide +kernel) (fun _ _ _ h => h) (Or.inl ⟨by rfl, ?_⟩) hHeld ?_
                      rotate_left
                      · intro wS hS; go_simp; (try with_reducible rfl)
                      simp only [Act.put, List.getElem_toArray, List.getElem_cons_succ, List.getElem_cons_zero, List.setIfInBounds_toArray, List.set_cons_succ, List.set_cons_zero]
                      refine wpAnyL_take (i := 24) (f0 := 40) (v := ?_) rfl (by decide +kernel) (by decide +kernel) (by decide +kernel) (by decide +kernel) (by decide +kernel) (fun _ _ _ h => h) (Or.inl ⟨by rfl, ?_⟩) hHeld ?_
                      rotate_left
                      · intro wS hS; go_simp; (try with_reducible rfl)
                      simp only [Act.put, List.getElem_toArray, List.getElem_cons_succ, List.getElem_cons_zero, List.setIfInBounds_toArray, List.set_cons_succ, List.set_cons_zero]
                      refine wpAnyL_done (by decide +kernel) ?_ _
                      refine NoPanic.normal ?_
                      go_wp2
                      go_ret
                      exact ⟨rfl, bnext hb hbz⟩
                    · have e1 : (M.toList == M2.toList) = false := by rw [str_ne]; exact decide_eq_false hMM
                      clear hjn HD hMM
                      have hmx : Tryd.prog.follows .mixedOrders = true := by kernel_rfl
                      have hHeld : (QS w.heap.size [sR (.slice kA (amN + 1) kc2) (List.replicate (amN + 1) Q), (.slice (some ⟨gr, 0, none⟩) 5 5, 24, [.int .i64 ac, (.slice kA (amN + 1) kc2), .int .i64 1, .int .i64 0, .int .i64 1]), (.slice (some ⟨gs, 0, none⟩) 3 3, 31, [.int .i64 (i : Int), .slice sA 18 sc, .slice sB h sd]), (.slice (some ⟨g1, 0, none⟩) 7 7, 33, [.int .i64 bm, .string bb, .int .i64 bc, .bool by_, .int .i64 (i : Int), .slice sA 18 sc, .slice sB h sd]), (.slice (some ⟨w.heap.size, 0, none⟩) 7 7, 33, [.int .i64 (amN : Int), .string ab, .int .i64 ac, .bool ay, .int .i64 (i : Int), .slice sA 18 sc, .slice sB h sd])]) wc.drew := hH.below (Below.refl _ _).drew
                      have hId := hI.keep (Below.refl wc.heap.size wc).drew
                      have hbz : Below wc.heap.size wc wc.drew := (Below.refl _ _).drew
                      refine wp_region_noPanic ?_
                      refine wp_region_L (QS w.heap.size [sR (.slice kA (amN + 1) kc2) (List.replicate (amN + 1) Q), (.slice (some ⟨gr, 0, none⟩) 5 5, 24, [.int .i64 ac, (.slice kA (amN + 1) kc2), .int .i64 1, .int .i64 0, .int .i64 1]), (.slice (some ⟨gs, 0, none⟩) 3 3, 31, [.int .i64 (i : Int), .slice sA 18 sc, .slice sB h sd]), (.slice (some ⟨g1, 0, none⟩) 7 7, 33, [.int .i64 bm, .string bb, .int .i64 bc, .bool by_, .int .i64 (i : Int), .slice sA 18 sc, .slice sB h sd]), (.slice (some ⟨w.heap.size, 0, none⟩) 7 7, 33, [.int .i64 (amN : Int), .string ab, .int .i64 ac, .bool ay, .int .i64 (i : Int), .slice sA 18 sc, .slice sB h sd])]) 25 hmx ?_
                      generalize wc.drew = u0 at *
                      refine wpAnyL_take (i := 0) (f0 := 40) (v := ?_) rfl (by decide +kernel) (by decide +kernel) (by decide +kernel) (by decide +kernel) (by decide +kernel) (fun _ _ _ h => h) (Or.inl ⟨by rfl, ?_⟩) hHeld ?_
                      rotate_left
                      · intro wS hS; go_simp; (try with_reducible rfl)
                      simp only [Act.put, List.getElem_toArray, List.getElem_cons_zero, List.setIfInBounds_toArray, List.set_cons_succ, List.set_cons_zero]
                      refine wpAnyL_take (i := 1) (f0 := 40) (v := ?_) rfl (by decide +kernel) (by decide +kernel) (by decide +kernel) (by decide +kernel) (by decide +kernel) (fun _ _ _ h => h) (Or.inl ⟨by rfl, ?_⟩) hHeld ?_
                      rotate_left
                      · intro wS hS; go_simp; (try with_reducible rfl)
                      simp only [Act.put, List.getElem_toArray, List.getElem_cons_succ, List.getElem_cons_zero, List.setIfInBounds_toArray, List.set_cons_succ, List.set_cons_zero]
                      refine wpAnyL_take (i := 2) (f0 := 40) (v := ?_) rfl (by decide +kernel) (by decide +kernel) (by decide +kernel) (by decide +kernel) (by decide +kernel) (fun _ _ _ h => h) (Or.inl ⟨by rfl, ?_⟩) hHeld ?_
                      rotate_left
                      · intro wS hS; go_simp; (try with_reducible rfl)
                      simp only [Act.put, List.getElem_toArray, List.getElem_cons_succ, List.getElem_cons_zero, List.setIfInBounds_toArray, List.set_cons_succ, List.set_cons_zero]
                      refine wpAnyL_take (i := 3) (f0 := 40) (v := ?_) rfl (by decide +kernel) (by decide +kernel) (by decide +kernel) (by decide +kernel) (by decide +kernel) (fun _ _ _ h => h) (Or.inl ⟨by rfl, ?_⟩) hHeld ?_
                      rotate_left
                      · intro wS hS; go_simp; (try with_reducible rfl)
                      simp only [Act.put, List.getElem_toArray, List.getElem_cons_succ, List.getElem_cons_zero, List.setIfInBounds_toArray, List.set_cons_succ, List.set_cons_zero]
                      refine wpAnyL_take (i := 4) (f0 := 40) (v := ?_) rfl (by decide +kernel) (by decide +kernel) (by decide +kernel) (by decide +kernel) (by decide +kernel) (fun _ _ _ h => h) (Or.inl ⟨by rfl, ?_⟩) hHeld ?_
                      rotate_left
                      · intro wS hS; go_simp; (try with_reducible rfl)
                      simp only [Act.put, List.getElem_toArray, List.getElem_cons_succ, List.getElem_cons_zero, List.setIfInBounds_toArray, List.set_cons_succ, List.set_cons_zero]
                      refine wpAnyL_take (i := 5) (f0 := 40) (v := ?_) rfl (by decide +kernel) (by decide +kernel) (by decide +kernel) (by decide +kernel) (by decide +kernel) (fun _ _ _ h => h) (Or.inl ⟨by rfl, ?_⟩) hHeld ?_
                      rotate_left
                      · intro wS hS; obtain ⟨a0, a1, a2, a3, a4, a5, a6⟩ := cells7 (hS.row (List.mem_cons_of_mem _ (List.mem_cons_of_mem _ (List.mem_cons_of_mem _ (List.mem_cons_of_mem _ (List.mem_cons_self ..)))))); go_simp; (try with_reducible rfl)
                      simp only [Act.put, List.getElem_toArray, List.getElem_cons_succ, List.getElem_cons_zero, List.setIfInBounds_toArray, List.set_cons_succ, List.set_cons_zero]
                      refine wpAnyL_take (i := 7) (f0 := 40) (v := ?_) rfl (by decide +kernel) (by decide +kernel) (by decide +kernel) (by decide +kernel) (by decide +kernel) (fun _ _ _ h => h) (Or.inl ⟨by rfl, ?_⟩) hHeld ?_
                      rotate_left
                      · intro wS hS; obtain ⟨b0, b1, b2, b3, b4, b5, b6⟩ := cells7 (hS.row (List.mem_cons_of_mem _ (List.mem_cons_of_mem _ (List.mem_cons_of_mem _ (List.mem_cons_self ..))))); go_simp; (try with_reducible rfl)
                      simp only [Act.put, List.getElem_toArray, List.getElem_cons_succ, List.getElem_cons_zero, List.setIfInBounds_toArray, List.set_cons_succ, List.set_cons_zero]
                      refine wpAnyL_one (i := 6) (by decide +kernel) (by rfl) (fun K0 hK => ?_)
                      rw [if_pos (by rfl)]
                      go_simp
                      refine (vmsg_any (amN : Int) ab ac ay _ _ _ (by omega) (by omega) HB.out.2.2.1 HB.out.2.2.2.1 (by omega) M HMM.out _ hHeld.env).mono ?_
                      rintro r u1 ⟨rfl, hbn⟩
                      replace hHeld := hHeld.below hbn
                      replace hId := hId.keep hbn
                      replace hbz := hbz.trans (hbn.mono hbz.size)
                      refine hK.out _ _ (Or.inr hHeld) ?_
                      clear hK K0
                      try simp only [Act.put, List.getElem_toArray, List.getElem_cons_succ, List.getElem_cons_zero, List.setIfInBounds_toArray, List.set_cons_succ, List.set_cons_zero]
                      refine wpAnyL_one (i := 8) (by decide +kernel) (by rfl) (fun K0 hK => ?_)
                      rw [if_pos (by rfl)]
                      go_simp
                      refine (vmsg_any bm bb bc by_ _ _ _ HB.out.2.2.2.2.1 HB.out.2.2.2.2.2.1 HB.out.2.2.2.2.2.2.1 HB.out.2.2.2.2.2.2.2 (by omega) M2 HM2.out _ hHeld.env).mono ?_
                      rintro r u2 ⟨rfl, hbn⟩
                      replace hHeld := hHeld.below hbn
                      replace hId := hId.keep hbn
                      replace hbz := hbz.trans (hbn.mono hbz.size)
                      refine hK.out _ _ (Or.inr hHeld) ?_
                      clear hK K0
                      try simp only [Act.put, List.getElem_toArray, List.getElem_cons_succ, List.getElem_cons_zero, List.setIfInBounds_toArray, List.set_cons_succ, List.set_cons_zero]
                      refine wpAnyL_take (i := 9) (f0 := 40) (v := ?_) rfl (by decide +kernel) (by decide +kernel) (by decide +kernel) (by decide +kernel) (by decide +kernel) (fun _ _ _ h => h) (Or.inl ⟨by rfl, ?_⟩) hHeld ?_
                      rotate_left
                      · intro wS hS; go_simp; (try with_reducible rfl)
                      simp only [Act.put, List.getElem_toArray, List.getElem_cons_succ, List.getElem_cons_zero, List.setIfInBounds_toArray, List.set_cons_succ, List.set_cons_zero]
                      refine wpAnyL_take (i := 10) (f0 := 40) (v := ?_) rfl (by decide +kernel) (by decide +kernel) (by decide +kernel) (by decide +kernel) (by decide +kernel) (fun _ _ _ h => h) (Or.inl ⟨by rfl, ?_⟩) hHeld ?_
                      rotate_left
                      · intro wS hS; go_simp; (try with_reducible rfl)
                      simp only [Act.put, List.getElem_toArray, List.getElem_cons_succ, List.getElem_cons_zero, List.setIfInBounds_toArray, List.set_cons_succ, List.set_cons_zero]
                      refine wpAnyL_take (i := 11) (f0 := 40) (v := ?_) rfl (by decide +kernel) (by decide +kernel) (by decide +kernel) (by decide +kernel) (by decide +kernel) (fun _ _ _ h => h) (Or.inl ⟨by rfl, ?_⟩) hHeld ?_
                      rotate_left
                      · intro wS hS; go_simp; (try with_reducible rfl)
                      simp only [Act.put, List.getElem_toArray, List.getElem_cons_succ, List.getElem_cons_zero, List.setIfInBounds_toArray, List.set_cons_succ, List.set_cons_zero]
                      refine wpAnyL_take (i := 12) (f0 := 40) (v := undef) rfl (by decide +kernel) (by decide +kernel) (by decide +kernel) (by decide +kernel) (by decide +kernel) (fun _ _ _ h => h) (Or.inr ⟨by rfl, rfl⟩) hHeld ?_
                      simp only [Act.put, List.getElem_toArray, List.getElem_cons_succ, List.getElem_cons_zero, List.setIfInBounds_toArray, List.set_cons_succ, List.set_cons_zero]
                      refine wpAnyL_take (i := 13) (f0 := 40) (v := undef) rfl (by decide +kernel) (by decide +kernel) (by decide +kernel) (by decide +kernel) (by decide +kernel) (fun _ _ _ h => h) (Or.inr ⟨by rfl, rfl⟩) hHeld ?_
                      simp only [Act.put, List.getElem_toArray, List.getElem_cons_succ, List.getElem_cons_zero, List.setIfInBounds_toArray, List.set_cons_succ, List.set_cons_zero]
                      refine wpAnyL_take (i := 14) (f0 := 40) (v := undef) rfl (by decide +kernel) (by decide +kernel) (by decide +kernel) (by decide +kernel) (by decide +kernel) (fun _ _ _ h => h) (Or.inr ⟨by rfl, rfl⟩) hHeld ?_
                      simp only [Act.put, List.getElem_toArray, List.getElem_cons_succ, List.getElem_cons_zero, List.setIfInBounds_toArray, List.set_cons_succ, List.set_cons_zero]
                      refine wpAnyL_take (i := 15) (f0 := 40) (v := undef) rfl (by decide +kernel) (by decide +kernel) (by decide +kernel) (by decide +kernel) (by decide +kernel) (fun _ _ _ h => h) (Or.inr ⟨by rfl, rfl⟩) hHeld ?_
                      simp only [Act.put, List.getElem_toArray, List.getElem_cons_succ, List.getElem_cons_zero, List.setIfInBounds_toArray, List.set_cons_succ, List.set_cons_zero]
                      refine wpAnyL_take (i := 16) (f0 := 40) (v := undef) rfl (by decide +kernel) (by decide +kernel) (by decide +kernel) (by decide +kernel) (by decide +kernel) (fun _ _ _ h => h) (Or.inr ⟨by rfl, rfl⟩) hHeld ?_
                      simp only [Act.put, List.getElem_toArray, List.getElem_cons_succ, List.getElem_cons_zero, List.setIfInBounds_toArray, List.set_cons_succ, List.set_cons_zero]
                      refine wpAnyL_take (i := 18) (f0 := 40) (v := undef) rfl (by decide +kernel) (by decide +kernel) (by decide +kernel) (by decide +kernel) (by decide +kernel) (fun _ _ _ h => h) (Or.inr ⟨by rfl, rfl⟩) hHeld ?_
                      simp only [Act.put, List.getElem_toArray, List.getElem_cons_succ, List.getElem_cons_zero, List.setIfInBounds_toArray, List.set_cons_succ, List.set_cons_zero]
                      refine wpAnyL_take (i := 17) (f0 := 40) (v := undef) rfl (by decide +kernel) (by decide +kernel) (by decide +kernel) (by decide +kernel) (by decide +kernel) (fun _ _ _ h => h) (Or.inr ⟨by rfl, rfl⟩) hHeld ?_
                      simp only [Act.put, List.getElem_toArray, List.getElem_cons_succ, List.getElem_cons_zero, List.setIfInBounds_toArray, List.set_cons_succ, List.set_cons_zero]
                      refine wpAnyL_take (i := 19) (f0 := 40) (v := undef) rfl (by decide +kernel) (by decide +kernel) (by decide +kernel) (by decide +kernel) (by decide +kernel) (fun _ _ _ h => h) (Or.inr ⟨by rfl, rfl⟩) hHeld ?_
                      simp only [Act.put, List.getElem_toArray, List.getElem_cons_succ, List.getElem_cons_zero, List.setIfInBounds_toArray, List.set_cons_succ, List.set_cons_zero]
                      refine wpAnyL_take (i := 20) (f0 := 40) (v := undef) rfl (by decide +kernel) (by decide +kernel) (by decide +kernel) (by decide +kernel) (by decide +kernel) (fun _ _ _ h => h) (Or.inr ⟨by rfl, rfl⟩) hHeld ?_
                      simp only [Act.put, List.getElem_toArray, List.getElem_cons_succ, List.getElem_cons_zero, List.setIfInBounds_toArray, List.set_cons_succ, List.set_cons_zero]
                      refine wpAnyL_take (i := 21) (f0 := 40) (v := undef) rfl (by decide +kernel) (by decide +kernel) (by decide +kernel) (by decide +kernel) (by decide +kernel) (fun _ _ _ h => h) (Or.inr ⟨by rfl, rfl⟩) hHeld ?_
                      simp only [Act.put, List.getElem_toArray, List.getElem_cons_succ, List.getElem_cons_zero, List.setIfInBounds_toArray, List.set_cons_succ, List.set_cons_zero]
                      refine wpAnyL_take (i := 22) (f0 := 40) (v := ?_) rfl (by decide +kernel) (by decide +kernel) (by decide +kernel) (by decide +kernel) (by decide +kernel) (fun _ _ _ h => h) (Or.inl ⟨by rfl, ?_⟩) hHeld ?_
                      rotate_left
                      · intro wS hS; go_simp; (try with_reducible rfl)
                      simp only [Act.put, List.getElem_toArray, List.getElem_cons_succ, List.getElem_cons_zero, List.setIfInBounds_toArray, List.set_cons_succ, List.set_cons_zero]
                      refine wpAnyL_take (i := 23) (f0 := 40) (v := ?_) rfl (by decide +kernel) (by decide +kernel) (by decide +kernel) (by decide +kernel) (by decide +kernel) (fun _ _ _ h => h) (Or.inl ⟨by rfl, ?_⟩) hHeld ?_
                      rotate_left
                      · intro wS hS; go_simp; (try with_reducible rfl)
                      simp only [Act.put, List.getElem_toArray, List.getElem_cons_succ, List.getElem_cons_zero, List.setIfInBounds_toArray, List.set_cons_succ, List.set_cons_zero]
                      refine wpAnyL_take (i := 24) (f0 := 40) (v := ?_) rfl (by decide +kernel) (by decide +kernel) (by decide +kernel) (by decide +kernel) (by decide +kernel) (fun _ _ _ h => h) (Or.inl ⟨by rfl, ?_⟩) hHeld ?_
                      rotate_left
                      · intro wS hS; go_simp; (try with_reducible rfl)
                      simp only [Act.put, List.getElem_toArray, List.getElem_cons_succ, List.getElem_cons_zero, List.setIfInBounds_toArray, List.set_cons_succ, List.set_cons_zero]
                      refine wpAnyL_done (by decide +kernel) ?_ _
                      refine NoPanic.normal ?_
                      go_wp2
                      go_ret
                      exact ⟨rfl, bnext hb hbz⟩
end Go.Proofs.YtgncahnkkpjdpaaDoor

